/- FnExactDataOk returns true, whatever the slice of pairs that it is given: the program's DataOk and the reference's tell the same. There are no conditions. -/
import Derived.Test.YtijmnochaamllaaProg
import Derived.Test.YtijmnochaamllaaMvIII
import Derived.Test.YtijmnochaamllaaRows
import Derived.WalkKit
import Derived.ProofKit
import Derived.OpenShut
import Derived.ShutString
import Derived.ChangeOld
import Derived.Below
import Derived.SizedLaws
set_option linter.unusedVariables false
set_option linter.unusedSimpArgs false
namespace Go.Proofs.Ytijmnochaamllaa
open Go.Mv Go.RowKit
noncomputable def tyL : List (Nat × TInfo) := [
  (3, { k := .int .i64, size := 1, bytes := 8, zero := .int .i64 0 }),
  (4, { k := .bool, size := 1, bytes := 1, zero := .bool false }),
  (9, { k := .string, size := 1, bytes := 16, zero := .string ⟨#[]⟩ }),
  (22, { k := .slice 83, size := 1, bytes := 24, zero := .slice none 0 0 }),
  (25, { k := .slice 84, size := 1, bytes := 24, zero := .slice none 0 0 }),
  (83, { k := .struct [(0, 9), (1, 9)], size := 2, bytes := 32, zero := .agg #[.string ⟨#[]⟩, .string ⟨#[]⟩] }),
  (84, { k := .struct [(0, 9), (1, 9)], size := 2, bytes := 32, zero := .agg #[.string ⟨#[]⟩, .string ⟨#[]⟩] })]
noncomputable abbrev Ty := tyOf tyL
theorem tyOK : TyOK Try.prog Ty := tyOf_ok (by
  simp only [tyL, List.forall_mem_cons]
  refine ⟨⟨Try.underlying3, ⟨Try.t3, by kernel_rfl, rfl, rfl, rfl⟩, nofun⟩, ?_⟩
  refine ⟨⟨Try.underlying4, ⟨Try.t4, by kernel_rfl, rfl, rfl, rfl⟩, nofun⟩, ?_⟩
  refine ⟨⟨Try.underlying9, ⟨Try.t9, by kernel_rfl, rfl, rfl, rfl⟩, nofun⟩, ?_⟩
  refine ⟨⟨Try.underlying22, ⟨Try.t22, by kernel_rfl, rfl, rfl, rfl⟩, nofun⟩, ?_⟩
  refine ⟨⟨Try.underlying25, ⟨Try.t25, by kernel_rfl, rfl, rfl, rfl⟩, nofun⟩, ?_⟩
  refine ⟨⟨⟨_, Try.underlying83, rfl⟩, ⟨Try.t83, by kernel_rfl, rfl, rfl, rfl⟩, nofun⟩, ?_⟩
  refine ⟨⟨⟨_, Try.underlying84, rfl⟩, ⟨Try.t84, by kernel_rfl, rfl, rfl, rfl⟩, nofun⟩, ?_⟩
  exact nofun)

structure Pair where
  k : ByteArray
  v : ByteArray
instance : Inhabited Pair := ⟨⟨⟨#[]⟩, ⟨#[]⟩⟩⟩
def ePair (p : Pair) : List C := [sC p.k, sC p.v]


def uvalOk (s : ByteArray) : Bool := decide (((s.size : Int)) ≤ 20)
/-- spec.UvalOk -/
theorem ok44 (s : ByteArray) : CallOK Try.prog 44 [sV s] (bV (uvalOk s)) [] :=
  callOK tyOK Try.func44 rfl fun w S hS => by
    refine a_seq ?_
    refine a_run [0] tyOK (st1 := mk 6 [(0, sV s)] []) (by kernel_rfl) ?_
    refine a_seq ?_
    refine a_run [2] tyOK (st1 := mk 6 [(2, bV (decide (((s.size : Int)) ≤ 20)))] []) (by kernel_rfl) ?_
    refine a_ret ?_
    have e : uvalOk s = decide (((s.size : Int)) ≤ 20) := by rw [uvalOk]
    exact end_eq (res' := bV (decide (((s.size : Int)) ≤ 20))) (by kernel_rfl) (by rw [e])


def userOk (s : ByteArray) : Bool := bif (decide (((s.size : Int)) ≥ 1)) then (decide (((s.size : Int)) ≤ 8)) else false
/-- spec.UserOk -/
theorem ok43 (s : ByteArray) : CallOK Try.prog 43 [sV s] (bV (userOk s)) [] :=
  callOK tyOK Try.func43 rfl fun w S hS => by
    refine a_seq ?_
    refine a_run [0] tyOK (st1 := mk 11 [(0, sV s)] []) (by kernel_rfl) ?_
    refine a_seq ?_
    refine a_mid (mk 11 [(2, bV (bif (decide (((s.size : Int)) ≥ 1)) then (decide (((s.size : Int)) ≤ 8)) else false))] []) ?_ ?_
    · refine a_ops [0, 1, 2, 3, 4, 5, 6, 7, 8] (by kernel_rfl) ?_
      refine ao_some [0, 1, 2, 3] [4, 5, 6, 7, 8] [0, 6] tyOK (st1 := mk 11 [(0, sV s), (6, bV (decide (((s.size : Int)) ≥ 1)))] []) (by kernel_rfl) ?_
      rcases Bool.eq_false_or_eq_true (decide (((s.size : Int)) ≥ 1)) with h1 | h1
      · rw [h1]
        have g1 := h1
        try simp only [decide_eq_true_eq, decide_eq_false_iff_not, List.length_map, bne_iff_ne, bne_eq_false_iff_eq, beq_iff_eq, beq_eq_false_iff_ne, Bool.not_eq_true, Bool.not_eq_false, Bool.not_eq_true'] at g1
        refine ao_some [4, 5, 6, 7, 8] [] [2] tyOK (st1 := mk 11 [(2, bV (decide (((s.size : Int)) ≤ 8)))] []) (by kernel_rfl) ?_
        exact ao_nil (by show _ = _; kernel_rfl)
      · rw [h1]
        have g1 := h1
        try simp only [decide_eq_true_eq, decide_eq_false_iff_not, List.length_map, bne_iff_ne, bne_eq_false_iff_eq, beq_iff_eq, beq_eq_false_iff_ne, Bool.not_eq_true, Bool.not_eq_false, Bool.not_eq_true'] at g1
        refine ao_some [4, 5, 6, 7, 8] [] [2] tyOK (st1 := mk 11 [(2, bV false)] []) (by kernel_rfl) ?_
        exact ao_nil (by show _ = _; kernel_rfl)
    refine a_ret ?_
    have e : userOk s = bif (decide (((s.size : Int)) ≥ 1)) then (decide (((s.size : Int)) ≤ 8)) else false := by rw [userOk]
    exact end_eq (res' := bV (bif (decide (((s.size : Int)) ≥ 1)) then (decide (((s.size : Int)) ≤ 8)) else false)) (by kernel_rfl) (by rw [e])


def szPair (p : Pair) (l : Int) : Int := bif (decide ((IntKind.wrap .i64 (l - ((p.k.size : Int)))) < 0)) then (-1) else (bif (decide ((IntKind.wrap .i64 ((IntKind.wrap .i64 (l - ((p.k.size : Int)))) - ((p.v.size : Int)))) < 0)) then (-1) else (IntKind.wrap .i64 ((IntKind.wrap .i64 (l - ((p.k.size : Int)))) - ((p.v.size : Int)))))
/-- laws.szPair -/
theorem ok42 (p : Pair) (l : Int) : CallOK Try.prog 42 [.agg [.c (sC p.k), .c (sC p.v)], iV l] (iV (szPair p l)) [] :=
  callOK tyOK Try.func42 rfl fun w S hS => by
    refine a_seq ?_
    refine a_run [1, 2] tyOK (st1 := mk 20 [(1, iV l), (2, .one (.pl [(2, 0)] 0 0))] [(2, [.bx [sC p.k, sC p.v]])]) (by kernel_rfl) ?_
    refine a_seq ?_
    refine a_run [1, 2] tyOK (st1 := mk 20 [(1, iV (IntKind.wrap .i64 (l - ((p.k.size : Int))))), (2, .one (.pl [(2, 0)] 0 0))] [(2, [.bx [sC p.k, sC p.v]])]) (by kernel_rfl) ?_
    refine a_seq ?_
    refine a_seq ?_
    refine a_run [1, 2, 11] tyOK (st1 := mk 20 [(1, iV (IntKind.wrap .i64 (l - ((p.k.size : Int))))), (2, .one (.pl [(2, 0)] 0 0)), (11, bV (decide ((IntKind.wrap .i64 (l - ((p.k.size : Int)))) < 0)))] [(2, [.bx [sC p.k, sC p.v]])]) (by kernel_rfl) ?_
    refine a_cond (b := decide ((IntKind.wrap .i64 (l - ((p.k.size : Int)))) < 0)) (by kernel_rfl) (fun h1 => ?_) (fun h1 => ?_)
    · have g1 := h1
      try simp only [decide_eq_true_eq, decide_eq_false_iff_not, List.length_map, bne_iff_ne, bne_eq_false_iff_eq, beq_iff_eq, beq_eq_false_iff_ne, Bool.not_eq_true, Bool.not_eq_false, Bool.not_eq_true'] at g1
      refine a_seq ?_
      refine a_run [4] tyOK (st1 := mk 20 [(4, iV (-1))] []) (by kernel_rfl) ?_
      refine a_ret ?_
      have e : szPair p l = -1 := by rw [szPair]; rw [h1, cond_true]
      exact end_eq (res' := iV (-1)) (by kernel_rfl) (by rw [e])
    · have g1 := h1
      try simp only [decide_eq_true_eq, decide_eq_false_iff_not, List.length_map, bne_iff_ne, bne_eq_false_iff_eq, beq_iff_eq, beq_eq_false_iff_ne, Bool.not_eq_true, Bool.not_eq_false, Bool.not_eq_true'] at g1
      refine a_skip ?_
      refine a_seq ?_
      refine a_run [1] tyOK (st1 := mk 20 [(1, iV (IntKind.wrap .i64 ((IntKind.wrap .i64 (l - ((p.k.size : Int)))) - ((p.v.size : Int)))))] []) (by kernel_rfl) ?_
      refine a_seq ?_
      refine a_seq ?_
      refine a_run [1, 18] tyOK (st1 := mk 20 [(1, iV (IntKind.wrap .i64 ((IntKind.wrap .i64 (l - ((p.k.size : Int)))) - ((p.v.size : Int))))), (18, bV (decide ((IntKind.wrap .i64 ((IntKind.wrap .i64 (l - ((p.k.size : Int)))) - ((p.v.size : Int)))) < 0)))] []) (by kernel_rfl) ?_
      refine a_cond (b := decide ((IntKind.wrap .i64 ((IntKind.wrap .i64 (l - ((p.k.size : Int)))) - ((p.v.size : Int)))) < 0)) (by kernel_rfl) (fun h2 => ?_) (fun h2 => ?_)
      · have g2 := h2
        try simp only [decide_eq_true_eq, decide_eq_false_iff_not, List.length_map, bne_iff_ne, bne_eq_false_iff_eq, beq_iff_eq, beq_eq_false_iff_ne, Bool.not_eq_true, Bool.not_eq_false, Bool.not_eq_true'] at g2
        refine a_seq ?_
        refine a_run [4] tyOK (st1 := mk 20 [(4, iV (-1))] []) (by kernel_rfl) ?_
        refine a_ret ?_
        have e : szPair p l = -1 := by rw [szPair]; rw [h1, cond_false, h2, cond_true]
        exact end_eq (res' := iV (-1)) (by kernel_rfl) (by rw [e])
      · have g2 := h2
        try simp only [decide_eq_true_eq, decide_eq_false_iff_not, List.length_map, bne_iff_ne, bne_eq_false_iff_eq, beq_iff_eq, beq_eq_false_iff_ne, Bool.not_eq_true, Bool.not_eq_false, Bool.not_eq_true'] at g2
        refine a_skip ?_
        refine a_seq ?_
        refine a_run [4] tyOK (st1 := mk 20 [(4, iV (IntKind.wrap .i64 ((IntKind.wrap .i64 (l - ((p.k.size : Int)))) - ((p.v.size : Int)))))] []) (by kernel_rfl) ?_
        refine a_ret ?_
        have e : szPair p l = IntKind.wrap .i64 ((IntKind.wrap .i64 (l - ((p.k.size : Int)))) - ((p.v.size : Int))) := by rw [szPair]; rw [h1, cond_false, h2, cond_false]
        exact end_eq (res' := iV (IntKind.wrap .i64 ((IntKind.wrap .i64 (l - ((p.k.size : Int)))) - ((p.v.size : Int))))) (by kernel_rfl) (by rw [e])


def eqPair (p : Pair) (q : Pair) : Bool := bif (!(p.k.toList == q.k.toList)) then false else (bif (!(p.v.toList == q.v.toList)) then false else true)
/-- laws.eqPair -/
theorem ok47 (p : Pair) (q : Pair) : CallOK Try.prog 47 [.agg [.c (sC p.k), .c (sC p.v)], .agg [.c (sC q.k), .c (sC q.v)]] (bV (eqPair p q)) [] :=
  callOK tyOK Try.func47 rfl fun w S hS => by
    refine a_seq ?_
    refine a_run [2, 3] tyOK (st1 := mk 15 [(2, .one (.pl [(2, 0)] 0 0)), (3, .one (.pl [(3, 0)] 0 0))] [(2, [.bx [sC p.k, sC p.v]]), (3, [.bx [sC q.k, sC q.v]])]) (by kernel_rfl) ?_
    refine a_seq ?_
    refine a_seq ?_
    refine a_run [2, 3, 9] tyOK (st1 := mk 15 [(2, .one (.pl [(2, 0)] 0 0)), (3, .one (.pl [(3, 0)] 0 0)), (9, bV (!(p.k.toList == q.k.toList)))] [(2, [.bx [sC p.k, sC p.v]]), (3, [.bx [sC q.k, sC q.v]])]) (by kernel_rfl) ?_
    refine a_cond (b := !(p.k.toList == q.k.toList)) (by kernel_rfl) (fun h1 => ?_) (fun h1 => ?_)
    · have g1 := h1
      try simp only [decide_eq_true_eq, decide_eq_false_iff_not, List.length_map, bne_iff_ne, bne_eq_false_iff_eq, beq_iff_eq, beq_eq_false_iff_ne, Bool.not_eq_true, Bool.not_eq_false, Bool.not_eq_true'] at g1
      refine a_seq ?_
      refine a_run [4] tyOK (st1 := mk 15 [(4, bV false)] []) (by kernel_rfl) ?_
      refine a_ret ?_
      have e : eqPair p q = false := by rw [eqPair]; rw [h1, cond_true]
      exact end_eq (res' := bV false) (by kernel_rfl) (by rw [e])
    · have g1 := h1
      try simp only [decide_eq_true_eq, decide_eq_false_iff_not, List.length_map, bne_iff_ne, bne_eq_false_iff_eq, beq_iff_eq, beq_eq_false_iff_ne, Bool.not_eq_true, Bool.not_eq_false, Bool.not_eq_true'] at g1
      refine a_skip ?_
      refine a_seq ?_
      refine a_seq ?_
      refine a_run [14] tyOK (st1 := mk 15 [(14, bV (!(p.v.toList == q.v.toList)))] []) (by kernel_rfl) ?_
      refine a_cond (b := !(p.v.toList == q.v.toList)) (by kernel_rfl) (fun h2 => ?_) (fun h2 => ?_)
      · have g2 := h2
        try simp only [decide_eq_true_eq, decide_eq_false_iff_not, List.length_map, bne_iff_ne, bne_eq_false_iff_eq, beq_iff_eq, beq_eq_false_iff_ne, Bool.not_eq_true, Bool.not_eq_false, Bool.not_eq_true'] at g2
        refine a_seq ?_
        refine a_run [4] tyOK (st1 := mk 15 [(4, bV false)] []) (by kernel_rfl) ?_
        refine a_ret ?_
        have e : eqPair p q = false := by rw [eqPair]; rw [h1, cond_false, h2, cond_true]
        exact end_eq (res' := bV false) (by kernel_rfl) (by rw [e])
      · have g2 := h2
        try simp only [decide_eq_true_eq, decide_eq_false_iff_not, List.length_map, bne_iff_ne, bne_eq_false_iff_eq, beq_iff_eq, beq_eq_false_iff_ne, Bool.not_eq_true, Bool.not_eq_false, Bool.not_eq_true'] at g2
        refine a_skip ?_
        refine a_seq ?_
        refine a_run [4] tyOK (st1 := mk 15 [(4, bV true)] []) (by kernel_rfl) ?_
        refine a_ret ?_
        have e : eqPair p q = true := by rw [eqPair]; rw [h1, cond_false, h2, cond_false]
        exact end_eq (res' := bV true) (by kernel_rfl) (by rw [e])


def within (s : Int) (m : Int) (n : Int) : Bool := bif (decide (s ≥ m)) then (decide (s ≤ n)) else false
/-- impl.within -/
theorem ok98 (s : Int) (m : Int) (n : Int) : CallOK Try.prog 98 [iV s, iV m, iV n] (bV (within s m n)) [] :=
  callOK tyOK Try.func98 rfl fun w S hS => by
    refine a_seq ?_
    refine a_run [0, 1, 2] tyOK (st1 := mk 15 [(0, iV s), (1, iV m), (2, iV n)] []) (by kernel_rfl) ?_
    refine a_seq ?_
    refine a_mid (mk 15 [(6, bV (bif (decide (s ≥ m)) then (decide (s ≤ n)) else false))] []) ?_ ?_
    · refine a_ops [0, 1, 2, 3, 4, 5, 6, 7, 8] (by kernel_rfl) ?_
      refine ao_some [0, 1, 2, 3] [4, 5, 6, 7, 8] [0, 2, 10] tyOK (st1 := mk 15 [(0, iV s), (2, iV n), (10, bV (decide (s ≥ m)))] []) (by kernel_rfl) ?_
      rcases Bool.eq_false_or_eq_true (decide (s ≥ m)) with h1 | h1
      · rw [h1]
        have g1 := h1
        try simp only [decide_eq_true_eq, decide_eq_false_iff_not, List.length_map, bne_iff_ne, bne_eq_false_iff_eq, beq_iff_eq, beq_eq_false_iff_ne, Bool.not_eq_true, Bool.not_eq_false, Bool.not_eq_true'] at g1
        refine ao_some [4, 5, 6, 7, 8] [] [6] tyOK (st1 := mk 15 [(6, bV (decide (s ≤ n)))] []) (by kernel_rfl) ?_
        exact ao_nil (by show _ = _; kernel_rfl)
      · rw [h1]
        have g1 := h1
        try simp only [decide_eq_true_eq, decide_eq_false_iff_not, List.length_map, bne_iff_ne, bne_eq_false_iff_eq, beq_iff_eq, beq_eq_false_iff_ne, Bool.not_eq_true, Bool.not_eq_false, Bool.not_eq_true'] at g1
        refine ao_some [4, 5, 6, 7, 8] [] [6] tyOK (st1 := mk 15 [(6, bV false)] []) (by kernel_rfl) ?_
        exact ao_nil (by show _ = _; kernel_rfl)
    refine a_ret ?_
    have e : within s m n = bif (decide (s ≥ m)) then (decide (s ≤ n)) else false := by rw [within]
    exact end_eq (res' := bV (bif (decide (s ≥ m)) then (decide (s ≤ n)) else false)) (by kernel_rfl) (by rw [e])


def userOkI (s : ByteArray) : Bool := within ((s.size : Int)) 1 8
/-- impl.UserOk -/
theorem ok80 (s : ByteArray) : CallOK Try.prog 80 [sV s] (bV (userOkI s)) [] :=
  callOK tyOK Try.func80 rfl fun w S hS => by
    refine a_seq ?_
    refine a_run [0] tyOK (st1 := mk 6 [(0, sV s)] []) (by kernel_rfl) ?_
    refine a_seq ?_
    refine a_ops [0, 1, 2, 3] (by kernel_rfl) ?_
    refine ao_some [0, 1] [2, 3] [4] tyOK (st1 := mk 6 [(4, iV ((s.size : Int)))] []) (by kernel_rfl) ?_
    refine ao_enter (f := 98) (d := 5) (A := [iV ((s.size : Int)), iV 1, iV 8]) (st1 := mk 6 [(5, bV (within ((s.size : Int)) 1 8))] []) [5] (ok98 ((s.size : Int)) 1 8) Try.call98 (by kernel_rfl) (by kernel_rfl) (by kernel_rfl) ?_
    refine ao_some [3] [] [2] tyOK (st1 := mk 6 [(2, bV (within ((s.size : Int)) 1 8))] []) (by kernel_rfl) ?_
    refine ao_nil ?_
    refine a_ret ?_
    have e : userOkI s = within ((s.size : Int)) 1 8 := by rw [userOkI]
    exact end_eq (res' := bV (within ((s.size : Int)) 1 8)) (by kernel_rfl) (by rw [e])


def uvalOkI (s : ByteArray) : Bool := decide (((s.size : Int)) ≤ 20)
/-- impl.UvalOk -/
theorem ok81 (s : ByteArray) : CallOK Try.prog 81 [sV s] (bV (uvalOkI s)) [] :=
  callOK tyOK Try.func81 rfl fun w S hS => by
    refine a_seq ?_
    refine a_run [0] tyOK (st1 := mk 6 [(0, sV s)] []) (by kernel_rfl) ?_
    refine a_seq ?_
    refine a_run [2] tyOK (st1 := mk 6 [(2, bV (decide (((s.size : Int)) ≤ 20)))] []) (by kernel_rfl) ?_
    refine a_ret ?_
    have e : uvalOkI s = decide (((s.size : Int)) ≤ 20) := by rw [uvalOkI]
    exact end_eq (res' := bV (decide (((s.size : Int)) ≤ 20))) (by kernel_rfl) (by rw [e])


def userPair (p : Pair) : Bool := bif (userOkI p.k) then (uvalOkI p.v) else false
/-- impl.userPair -/
theorem ok46 (p : Pair) : CallOK Try.prog 46 [.agg [.c (sC p.k), .c (sC p.v)]] (bV (userPair p)) [] :=
  callOK tyOK Try.func46 rfl fun w S hS => by
    refine a_seq ?_
    refine a_run [1] tyOK (st1 := mk 11 [(1, .one (.pl [(1, 0)] 0 0))] [(1, [.bx [sC p.k, sC p.v]])]) (by kernel_rfl) ?_
    refine a_seq ?_
    refine a_mid (mk 11 [(2, bV (bif (userOkI p.k) then (uvalOkI p.v) else false))] []) ?_ ?_
    · refine a_ops [0, 1, 2, 3, 4, 5, 6, 7, 8] (by kernel_rfl) ?_
      refine ao_some [0, 1] [2, 3, 4, 5, 6, 7, 8] [1, 4] tyOK (st1 := mk 11 [(1, .one (.pl [(1, 0)] 0 0)), (4, sV p.k)] [(1, [.bx [sC p.k, sC p.v]])]) (by kernel_rfl) ?_
      refine ao_enter (f := 80) (d := 5) (A := [sV p.k]) (st1 := mk 11 [(1, .one (.pl [(1, 0)] 0 0)), (5, bV (userOkI p.k))] [(1, [.bx [sC p.k, sC p.v]])]) [1, 5] (ok80 p.k) Try.call80 (by kernel_rfl) (by kernel_rfl) (by kernel_rfl) ?_
      refine ao_some [3] [4, 5, 6, 7, 8] [1, 6] tyOK (st1 := mk 11 [(1, .one (.pl [(1, 0)] 0 0)), (6, bV (userOkI p.k))] [(1, [.bx [sC p.k, sC p.v]])]) (by kernel_rfl) ?_
      rcases Bool.eq_false_or_eq_true (userOkI p.k) with h1 | h1
      · rw [h1]
        have g1 := h1
        try simp only [decide_eq_true_eq, decide_eq_false_iff_not, List.length_map, bne_iff_ne, bne_eq_false_iff_eq, beq_iff_eq, beq_eq_false_iff_ne, Bool.not_eq_true, Bool.not_eq_false, Bool.not_eq_true'] at g1
        refine ao_some [4, 5] [6, 7, 8] [6, 8] tyOK (st1 := mk 11 [(6, bV true), (8, sV p.v)] []) (by kernel_rfl) ?_
        refine ao_enter (f := 81) (d := 9) (A := [sV p.v]) (st1 := mk 11 [(6, bV true), (9, bV (uvalOkI p.v))] []) [6, 9] (ok81 p.v) Try.call81 (by kernel_rfl) (by kernel_rfl) (by kernel_rfl) ?_
        refine ao_some [7, 8] [] [2] tyOK (st1 := mk 11 [(2, bV (uvalOkI p.v))] []) (by kernel_rfl) ?_
        exact ao_nil (by show _ = _; kernel_rfl)
      · rw [h1]
        have g1 := h1
        try simp only [decide_eq_true_eq, decide_eq_false_iff_not, List.length_map, bne_iff_ne, bne_eq_false_iff_eq, beq_iff_eq, beq_eq_false_iff_ne, Bool.not_eq_true, Bool.not_eq_false, Bool.not_eq_true'] at g1
        refine ao_some [4, 5, 6, 7, 8] [] [2] tyOK (st1 := mk 11 [(2, bV false)] []) (by kernel_rfl) ?_
        exact ao_nil (by show _ = _; kernel_rfl)
    refine a_ret ?_
    have e : userPair p = bif (userOkI p.k) then (uvalOkI p.v) else false := by rw [userPair]
    exact end_eq (res' := bV (bif (userOkI p.k) then (uvalOkI p.v) else false)) (by kernel_rfl) (by rw [e])

def szL : List Pair → Int → Int
  | [], c => c
  | p :: ps, c => if szPair p c < 0 then -1 else szL ps (szPair p c)
def szPairS (xs : List Pair) (l : Int) : Int := bif decide (IntKind.wrap .i64 (l - (((((xs).map ePair).length : Nat) : Int))) < 0) then -1 else szL xs (IntKind.wrap .i64 (l - (((((xs).map ePair).length : Nat) : Int))))

structure L9_1 (xs : (List Pair)) (l : Int) where
  k : Nat
  c : Int
  inv : k ≤ xs.length ∧ szL (xs.drop k) c = szPairS xs l

/-- laws.szPairS -/
theorem ok9 (xs : (List Pair)) (l : Int) (hn : xs.length < 9223372036854775808) : CallOK Try.prog 9 [.one (.c (.sl 2 ((xs).map ePair))), iV l] (iV (szPairS xs l)) [] :=
  callOK tyOK Try.func9 rfl fun w S hS => by
    refine a_seq ?_
    refine a_run [0, 1] tyOK (st1 := mk 27 [(0, .one (.c (.sl 2 ((xs).map ePair)))), (1, iV l)] []) (by kernel_rfl) ?_
    refine a_seq ?_
    refine a_run [0, 1] tyOK (st1 := mk 27 [(0, .one (.c (.sl 2 ((xs).map ePair)))), (1, iV (IntKind.wrap .i64 (l - (((((xs).map ePair).length : Nat) : Int)))))] []) (by kernel_rfl) ?_
    refine a_seq ?_
    refine a_seq ?_
    refine a_run [0, 1, 11] tyOK (st1 := mk 27 [(0, .one (.c (.sl 2 ((xs).map ePair)))), (1, iV (IntKind.wrap .i64 (l - (((((xs).map ePair).length : Nat) : Int))))), (11, bV (decide ((IntKind.wrap .i64 (l - (((((xs).map ePair).length : Nat) : Int)))) < 0)))] []) (by kernel_rfl) ?_
    refine a_cond (b := decide ((IntKind.wrap .i64 (l - (((((xs).map ePair).length : Nat) : Int)))) < 0)) (by kernel_rfl) (fun h1 => ?_) (fun h1 => ?_)
    · have g1 := h1
      try simp only [decide_eq_true_eq, decide_eq_false_iff_not, List.length_map, bne_iff_ne, bne_eq_false_iff_eq, beq_iff_eq, beq_eq_false_iff_ne, Bool.not_eq_true, Bool.not_eq_false, Bool.not_eq_true'] at g1
      refine a_seq ?_
      refine a_run [4] tyOK (st1 := mk 27 [(4, iV (-1))] []) (by kernel_rfl) ?_
      refine a_ret ?_
      have e : szPairS xs l = -1 := by
          rw [szPairS, h1, cond_true]
      exact end_eq (res' := iV (-1)) (by kernel_rfl) (by rw [e])
    · have g1 := h1
      try simp only [decide_eq_true_eq, decide_eq_false_iff_not, List.length_map, bne_iff_ne, bne_eq_false_iff_eq, beq_iff_eq, beq_eq_false_iff_ne, Bool.not_eq_true, Bool.not_eq_false, Bool.not_eq_true'] at g1
      refine a_skip ?_
      refine a_seq ?_
      refine a_seq ?_
      refine a_run [0, 1, 5] tyOK (st1 := mk 27 [(0, .one (.c (.sl 2 ((xs).map ePair)))), (1, iV (IntKind.wrap .i64 (l - (((((xs).map ePair).length : Nat) : Int))))), (5, iV 0)] []) (by kernel_rfl) ?_
      refine a_block ?_
      refine a_keep [0, 1, 5] ?_
      refine a_loop (ι := L9_1 xs l) (fun ⟨k, c, _⟩ => mk 27 [(0, .one (.c (.sl 2 ((xs).map ePair)))), (1, iV c), (5, iV (((k : Nat) : Int)))] []) (fun ⟨k, c, _⟩ => xs.length - k) ⟨0, (IntKind.wrap .i64 (l - ((xs.map ePair).length : Nat))), Nat.zero_le _, by rw [szPairS, h1, cond_false]; rfl⟩ (by kernel_rfl) ?_
      rintro ⟨k, c, hI⟩
      obtain ⟨hk, hR⟩ := hI
      show AWp _ _ _ _ (mk 27 [(0, .one (.c (.sl 2 ((xs).map ePair)))), (1, iV c), (5, iV (((k : Nat) : Int)))] [])
      refine a_seq ?_
      refine a_seq ?_
      refine a_run [0, 1, 5, 15] tyOK (st1 := mk 27 [(0, .one (.c (.sl 2 ((xs).map ePair)))), (1, iV c), (5, iV (((k : Nat) : Int))), (15, bV (decide ((((k : Nat) : Int)) < (((((xs).map ePair).length : Nat) : Int)))))] []) (by kernel_rfl) ?_
      refine a_cond (b := decide ((((k : Nat) : Int)) < (((((xs).map ePair).length : Nat) : Int)))) (by kernel_rfl) (fun h2 => ?_) (fun h2 => ?_)
      · have g2 := h2
        try simp only [decide_eq_true_eq, decide_eq_false_iff_not, List.length_map, bne_iff_ne, bne_eq_false_iff_eq, beq_iff_eq, beq_eq_false_iff_ne, Bool.not_eq_true, Bool.not_eq_false, Bool.not_eq_true'] at g2
        refine a_skip ?_
        refine a_seq ?_
        refine a_block ?_
        refine a_seq ?_
        refine a_ops [0, 1, 2, 3, 4, 5, 6] (by kernel_rfl) ?_
        refine ao_some [0, 1] [2, 3, 4, 5, 6] [0, 1, 5, 18, 19] tyOK (st1 := mk 27 [(0, .one (.c (.sl 2 ((xs).map ePair)))), (1, iV c), (5, iV (((k : Nat) : Int))), (18, .one (.c (.sl 2 ((xs).map ePair)))), (19, iV (((k : Nat) : Int)))] []) (by kernel_rfl) ?_
        have p1 : 0 ≤ (((k : Nat) : Int)) ∧ (((k : Nat) : Int)).toNat < (xs).length := by simp at g2 ⊢; omega
        obtain ⟨x1, q1⟩ : ∃ x, (xs)[(((k : Nat) : Int)).toNat]? = some x := ⟨_, List.getElem?_eq_getElem p1.2⟩
        have r1 := q1
        try simp only [Int.toNat_natCast] at r1
        refine ao_index (d := 20) (size := 2) (n := ((k : Nat) : Int)) (rows := (xs).map ePair) (st1 := mk 27 [(0, .one (.c (.sl 2 ((xs).map ePair)))), (1, iV c), (5, iV (((k : Nat) : Int))), (20, .one (.fp [sC x1.k, sC x1.v] 0))] []) (ePair x1) [0, 1, 5, 20] tyOK (by kernel_rfl) p1.1 (by rw [List.getElem?_map, q1]; rfl) (by kernel_rfl) (by kernel_rfl) ?_
        refine ao_some [3, 4] [5, 6] [0, 5, 21, 22] tyOK (st1 := mk 27 [(0, .one (.c (.sl 2 ((xs).map ePair)))), (5, iV (((k : Nat) : Int))), (21, .agg [.c (sC x1.k), .c (sC x1.v)]), (22, iV c)] []) (by kernel_rfl) ?_
        refine ao_enter (f := 42) (d := 23) (A := [.agg [.c (sC x1.k), .c (sC x1.v)], iV c]) (st1 := mk 27 [(0, .one (.c (.sl 2 ((xs).map ePair)))), (5, iV (((k : Nat) : Int))), (23, iV (szPair x1 c))] []) [0, 5, 23] (ok42 x1 c) Try.call42 (by kernel_rfl) (by kernel_rfl) (by kernel_rfl) ?_
        refine ao_some [6] [] [0, 1, 5] tyOK (st1 := mk 27 [(0, .one (.c (.sl 2 ((xs).map ePair)))), (1, iV (szPair x1 c)), (5, iV (((k : Nat) : Int)))] []) (by kernel_rfl) ?_
        refine ao_nil ?_
        refine a_seq ?_
        refine a_run [0, 1, 5, 25] tyOK (st1 := mk 27 [(0, .one (.c (.sl 2 ((xs).map ePair)))), (1, iV (szPair x1 c)), (5, iV (((k : Nat) : Int))), (25, bV (decide ((szPair x1 c) < 0)))] []) (by kernel_rfl) ?_
        refine a_cond (b := decide ((szPair x1 c) < 0)) (by kernel_rfl) (fun h3 => ?_) (fun h3 => ?_)
        · have g3 := h3
          try simp only [decide_eq_true_eq, decide_eq_false_iff_not, List.length_map, bne_iff_ne, bne_eq_false_iff_eq, beq_iff_eq, beq_eq_false_iff_ne, Bool.not_eq_true, Bool.not_eq_false, Bool.not_eq_true'] at g3
          refine a_seq ?_
          refine a_run [4] tyOK (st1 := mk 27 [(4, iV (-1))] []) (by kernel_rfl) ?_
          refine a_ret ?_
          have e : szPairS xs l = -1 := by
              rw [← hR, drop_of_get r1, szL, if_pos g3]
          exact end_eq (res' := iV (-1)) (by kernel_rfl) (by rw [e])
        · have g3 := h3
          try simp only [decide_eq_true_eq, decide_eq_false_iff_not, List.length_map, bne_iff_ne, bne_eq_false_iff_eq, beq_iff_eq, beq_eq_false_iff_ne, Bool.not_eq_true, Bool.not_eq_false, Bool.not_eq_true'] at g3
          refine a_skip ?_
          refine a_run [0, 1, 5] tyOK (st1 := mk 27 [(0, .one (.c (.sl 2 ((xs).map ePair)))), (1, iV (szPair x1 c)), (5, iV (IntKind.wrap .i64 ((((k : Nat) : Int)) + 1)))] []) (by kernel_rfl) ?_
          refine ⟨⟨(k + 1), (szPair x1 c), ?_⟩, ?_, ?_⟩
          · exact ⟨by simp at p1; omega, by rw [← hR, drop_of_get r1, szL, if_neg (by omega)]⟩
          · exact (show _ = mk 27 [(0, .one (.c (.sl 2 ((xs).map ePair)))), (1, iV (szPair x1 c)), (5, iV (IntKind.wrap .i64 ((((k : Nat) : Int)) + 1)))] [] by kernel_rfl).trans (by rw [mv_wrap (by omega) (by simp at p1; omega)]; rfl)
          · simp at p1; dsimp only; omega
      · have g2 := h2
        try simp only [decide_eq_true_eq, decide_eq_false_iff_not, List.length_map, bne_iff_ne, bne_eq_false_iff_eq, beq_iff_eq, beq_eq_false_iff_ne, Bool.not_eq_true, Bool.not_eq_false, Bool.not_eq_true'] at g2
        refine a_exit ?_
        refine a_seq ?_
        refine a_run [4] tyOK (st1 := mk 27 [(4, iV c)] []) (by kernel_rfl) ?_
        refine a_ret ?_
        have e : szPairS xs l = c := by
            rw [← hR, List.drop_eq_nil_of_le (by simp at g2; omega), szL]
        exact end_eq (res' := iV c) (by kernel_rfl) (by rw [e])

def bad (prev : Option Pair) (x : Pair) : Bool := !(userOk x.k) || !(uvalOk x.v) || (match prev with
  | none => false
  | some p => !Op.bytesLess p.k.toList x.k.toList)
def dataL : Option Pair → List Pair → Bool
  | _, [] => true
  | p, x :: xs => if bad p x = true then false else dataL (some x) xs
def dataOk (xs : List Pair) : Bool := dataL none xs
def prevOf (xs : List Pair) (k : Nat) : Option Pair := match k with
  | 0 => none
  | k + 1 => xs[k]?
theorem bad_eq {xs : List Pair} {k : Nat} {x : Pair} (hk : k < xs.length) (hn : xs.length < 4611686018427387904) :
    (bif (!(userOk x.k)) then true else (bif (!(uvalOk x.v)) then true else (bif (decide ((((k : Nat) : Int)) > 0)) then (!Op.bytesLess (((el xs (IntKind.wrap .i64 ((((k : Nat) : Int)) - 1)))).k).toList x.k.toList) else false))) = bad (prevOf xs k) x := by
  cases k with
  | zero => unfold bad prevOf; cases userOk x.k <;> cases uvalOk x.v <;> rfl
  | succ k =>
    have e : IntKind.wrap .i64 (((k + 1 : Nat) : Int) - 1) = (k : Int) := by rw [mv_wrap (by omega) (by omega)]; omega
    have e2 : xs[k]? = some (el xs (k : Int)) := el_get (n := (k : Int)) (by simp; omega)
    rw [e]
    show _ = bad (xs[k]?) x
    rw [e2]
    unfold bad
    rw [show decide (((k + 1 : Nat) : Int) > 0) = true from decide_eq_true (by omega)]
    cases userOk x.k <;> cases uvalOk x.v <;> simp

structure L10_1 (xs : (List Pair)) where
  k : Nat
  inv : k ≤ xs.length ∧ dataL (prevOf xs k) (xs.drop k) = dataOk xs

/-- spec.DataOk -/
theorem ok10 (xs : (List Pair)) (hn : xs.length < 4611686018427387904) : CallOK Try.prog 10 [.one (.c (.sl 2 ((xs).map ePair)))] (bV (dataOk xs)) [] :=
  callOK tyOK Try.func10 rfl fun w S hS => by
    refine a_seq ?_
    refine a_run [0] tyOK (st1 := mk 38 [(0, .one (.c (.sl 2 ((xs).map ePair))))] []) (by kernel_rfl) ?_
    refine a_seq ?_
    refine a_seq ?_
    refine a_run [0, 5, 6, 7] tyOK (st1 := mk 38 [(0, .one (.c (.sl 2 ((xs).map ePair)))), (5, .one (.c (.sl 2 ((xs).map ePair)))), (6, iV (((((xs).map ePair).length : Nat) : Int))), (7, iV 0)] []) (by kernel_rfl) ?_
    refine a_block ?_
    refine a_keep [0, 5, 6, 7] ?_
    refine a_loop (ι := L10_1 xs) (fun ⟨k, _⟩ => mk 38 [(0, .one (.c (.sl 2 ((xs).map ePair)))), (5, .one (.c (.sl 2 ((xs).map ePair)))), (6, iV (((((xs).map ePair).length : Nat) : Int))), (7, iV (((k : Nat) : Int)))] []) (fun ⟨k, _⟩ => xs.length - k) ⟨0, Nat.zero_le _, rfl⟩ (by kernel_rfl) ?_
    rintro ⟨k, hI⟩
    obtain ⟨hk, hR⟩ := hI
    show AWp _ _ _ _ (mk 38 [(0, .one (.c (.sl 2 ((xs).map ePair)))), (5, .one (.c (.sl 2 ((xs).map ePair)))), (6, iV (((((xs).map ePair).length : Nat) : Int))), (7, iV (((k : Nat) : Int)))] [])
    refine a_seq ?_
    refine a_run [0, 5, 6, 7, 8] tyOK (st1 := mk 38 [(0, .one (.c (.sl 2 ((xs).map ePair)))), (5, .one (.c (.sl 2 ((xs).map ePair)))), (6, iV (((((xs).map ePair).length : Nat) : Int))), (7, iV (((k : Nat) : Int))), (8, bV (decide ((((k : Nat) : Int)) < (((((xs).map ePair).length : Nat) : Int)))))] []) (by kernel_rfl) ?_
    refine a_seq ?_
    refine a_cond (b := decide ((((k : Nat) : Int)) < (((((xs).map ePair).length : Nat) : Int)))) (by kernel_rfl) (fun h1 => ?_) (fun h1 => ?_)
    · have g1 := h1
      try simp only [decide_eq_true_eq, decide_eq_false_iff_not, List.length_map, bne_iff_ne, bne_eq_false_iff_eq, beq_iff_eq, beq_eq_false_iff_ne, Bool.not_eq_true, Bool.not_eq_false, Bool.not_eq_true'] at g1
      refine a_skip ?_
      refine a_seq ?_
      refine a_block ?_
      refine a_seq ?_
      refine a_ops [0, 1, 2, 3, 4, 5] (by kernel_rfl) ?_
      refine ao_some [0] [1, 2, 3, 4, 5] [0, 5, 6, 7, 9] tyOK (st1 := mk 38 [(0, .one (.c (.sl 2 ((xs).map ePair)))), (5, .one (.c (.sl 2 ((xs).map ePair)))), (6, iV (((((xs).map ePair).length : Nat) : Int))), (7, iV (((k : Nat) : Int))), (9, iV (((k : Nat) : Int)))] []) (by kernel_rfl) ?_
      have p1 : 0 ≤ (((k : Nat) : Int)) ∧ (((k : Nat) : Int)).toNat < (xs).length := by first | omega | (rw [mv_wrap (by omega) (by omega)]; omega)
      obtain ⟨x1, q1⟩ : ∃ x, (xs)[(((k : Nat) : Int)).toNat]? = some x := ⟨_, List.getElem?_eq_getElem p1.2⟩
      have r1 := q1
      try simp only [Int.toNat_natCast] at r1
      refine ao_index (d := 10) (size := 2) (n := ((k : Nat) : Int)) (rows := (xs).map ePair) (st1 := mk 38 [(0, .one (.c (.sl 2 ((xs).map ePair)))), (5, .one (.c (.sl 2 ((xs).map ePair)))), (6, iV (((((xs).map ePair).length : Nat) : Int))), (7, iV (((k : Nat) : Int))), (9, iV (((k : Nat) : Int))), (10, .one (.fp [sC x1.k, sC x1.v] 0))] []) (ePair x1) [0, 5, 6, 7, 9, 10] tyOK (by kernel_rfl) p1.1 (by rw [List.getElem?_map, q1]; rfl) (by kernel_rfl) (by kernel_rfl) ?_
      refine ao_some [2, 3, 4, 5] [] [0, 3, 4, 5, 6, 7] tyOK (st1 := mk 38 [(0, .one (.c (.sl 2 ((xs).map ePair)))), (3, iV (((k : Nat) : Int))), (4, .one (.pl [(4, 0)] 0 0)), (5, .one (.c (.sl 2 ((xs).map ePair)))), (6, iV (((((xs).map ePair).length : Nat) : Int))), (7, iV (((k : Nat) : Int)))] [(4, [.bx [sC x1.k, sC x1.v]])]) (by kernel_rfl) ?_
      refine ao_nil ?_
      refine a_seq ?_
      refine a_mid (mk 38 [(0, .one (.c (.sl 2 ((xs).map ePair)))), (5, .one (.c (.sl 2 ((xs).map ePair)))), (6, iV (((((xs).map ePair).length : Nat) : Int))), (7, iV (((k : Nat) : Int))), (36, bV (bif (!(userOk x1.k)) then true else (bif (!(uvalOk x1.v)) then true else (bif (decide ((((k : Nat) : Int)) > 0)) then (!Op.bytesLess (((el xs (IntKind.wrap .i64 ((((k : Nat) : Int)) - 1)))).k).toList x1.k.toList) else false))))] []) ?_ ?_
      · refine a_drawn (n := 25) [] (by kernel_rfl) (by kernel_rfl) ?_
        refine aa_take (fuel := 23) (listed' := #[true, true, false, false, false, false, false, false, false, false, false, false, false, false, false, false, false, false, false, false, false, false, false, false, false]) (st' := mk 38 [(0, .one (.c (.sl 2 ((xs).map ePair)))), (3, iV (((k : Nat) : Int))), (4, .one (.pl [(4, 0)] 0 0)), (5, .one (.c (.sl 2 ((xs).map ePair)))), (6, iV (((((xs).map ePair).length : Nat) : Int))), (7, iV (((k : Nat) : Int))), (13, sV x1.k)] [(4, [.bx [sC x1.k, sC x1.v]])]) [0, 1] [0, 3, 4, 5, 6, 7, 13] tyOK (by kernel_rfl) (by kernel_rfl) (by kernel_rfl) ?_
        refine aa_all [2] (by kernel_rfl) rfl ?_
        refine aa_cons ?_ aa_nil
        refine aone_enter (listed' := #[true, true, true, false, false, false, false, false, false, false, false, false, false, false, false, false, false, false, false, false, false, false, false, false, false]) (f := 43) (d := 14) (A := [sV x1.k]) (st1 := mk 38 [(0, .one (.c (.sl 2 ((xs).map ePair)))), (3, iV (((k : Nat) : Int))), (4, .one (.pl [(4, 0)] 0 0)), (5, .one (.c (.sl 2 ((xs).map ePair)))), (6, iV (((((xs).map ePair).length : Nat) : Int))), (7, iV (((k : Nat) : Int))), (14, bV (userOk x1.k))] [(4, [.bx [sC x1.k, sC x1.v]])]) [0, 3, 4, 5, 6, 7, 14] (ok43 x1.k) Try.call43 (by kernel_rfl) (by kernel_rfl) (by kernel_rfl) (by kernel_rfl) ?_
        refine aa_take (fuel := 20) (listed' := #[true, true, true, true, true, false, false, false, false, false, false, false, false, false, false, false, false, false, false, false, false, false, false, false, false]) (st' := mk 38 [(0, .one (.c (.sl 2 ((xs).map ePair)))), (3, iV (((k : Nat) : Int))), (4, .one (.pl [(4, 0)] 0 0)), (5, .one (.c (.sl 2 ((xs).map ePair)))), (6, iV (((((xs).map ePair).length : Nat) : Int))), (7, iV (((k : Nat) : Int))), (16, bV (!(userOk x1.k)))] [(4, [.bx [sC x1.k, sC x1.v]])]) [3, 4] [0, 3, 4, 5, 6, 7, 16] tyOK (by kernel_rfl) (by kernel_rfl) (by kernel_rfl) ?_
        rcases Bool.eq_false_or_eq_true (!(userOk x1.k)) with h2 | h2
        · rw [h2]
          have g2 := h2
          try simp only [decide_eq_true_eq, decide_eq_false_iff_not, List.length_map, bne_iff_ne, bne_eq_false_iff_eq, beq_iff_eq, beq_eq_false_iff_ne, Bool.not_eq_true, Bool.not_eq_false, Bool.not_eq_true'] at g2
          refine aa_take (fuel := 18) (listed' := #[true, true, true, true, true, true, true, false, false, false, false, false, false, false, false, false, false, false, false, false, false, false, false, false, false]) (st' := mk 38 [(0, .one (.c (.sl 2 ((xs).map ePair)))), (3, iV (((k : Nat) : Int))), (4, .one (.pl [(4, 0)] 0 0)), (5, .one (.c (.sl 2 ((xs).map ePair)))), (6, iV (((((xs).map ePair).length : Nat) : Int))), (7, iV (((k : Nat) : Int))), (16, bV true), (18, .tup [])] [(4, [.bx [sC x1.k, sC x1.v]])]) [5, 6] [0, 3, 4, 5, 6, 7, 16, 18] tyOK (by kernel_rfl) (by kernel_rfl) (by kernel_rfl) ?_
          refine aa_all [7] (by kernel_rfl) rfl ?_
          refine aa_cons ?_ aa_nil
          refine aone_any (listed' := #[true, true, true, true, true, true, true, true, false, false, false, false, false, false, false, false, false, false, false, false, false, false, false, false, false]) (st1 := mk 38 [(0, .one (.c (.sl 2 ((xs).map ePair)))), (3, iV (((k : Nat) : Int))), (4, .one (.pl [(4, 0)] 0 0)), (5, .one (.c (.sl 2 ((xs).map ePair)))), (6, iV (((((xs).map ePair).length : Nat) : Int))), (7, iV (((k : Nat) : Int))), (16, bV true), (19, .tup [])] [(4, [.bx [sC x1.k, sC x1.v]])]) [0, 3, 4, 5, 6, 7, 16, 19] tyOK (by kernel_rfl) (by kernel_rfl) ?_
          refine aa_take (fuel := 0) (listed' := #[true, true, true, true, true, true, true, true, true, true, true, true, true, true, true, true, true, true, true, true, true, true, true, true, true]) (st' := mk 38 [(0, .one (.c (.sl 2 ((xs).map ePair)))), (5, .one (.c (.sl 2 ((xs).map ePair)))), (6, iV (((((xs).map ePair).length : Nat) : Int))), (7, iV (((k : Nat) : Int))), (36, bV true)] []) [8, 9, 10, 11, 12, 13, 14, 15, 16, 17, 18, 19, 20, 21, 22, 23, 24] [0, 5, 6, 7, 36] tyOK (by kernel_rfl) (by kernel_rfl) (by kernel_rfl) ?_
          refine aa_done (by kernel_rfl) ?_
          show _ = _; kernel_rfl
        · rw [h2]
          have g2 := h2
          try simp only [decide_eq_true_eq, decide_eq_false_iff_not, List.length_map, bne_iff_ne, bne_eq_false_iff_eq, beq_iff_eq, beq_eq_false_iff_ne, Bool.not_eq_true, Bool.not_eq_false, Bool.not_eq_true'] at g2
          refine aa_take (fuel := 18) (listed' := #[true, true, true, true, true, true, true, false, false, false, false, false, false, false, false, false, false, false, false, false, false, false, false, false, false]) (st' := mk 38 [(0, .one (.c (.sl 2 ((xs).map ePair)))), (3, iV (((k : Nat) : Int))), (4, .one (.pl [(4, 0)] 0 0)), (5, .one (.c (.sl 2 ((xs).map ePair)))), (6, iV (((((xs).map ePair).length : Nat) : Int))), (7, iV (((k : Nat) : Int))), (16, bV false), (18, sV x1.v)] [(4, [.bx [sC x1.k, sC x1.v]])]) [5, 6] [0, 3, 4, 5, 6, 7, 16, 18] tyOK (by kernel_rfl) (by kernel_rfl) (by kernel_rfl) ?_
          refine aa_all [7] (by kernel_rfl) rfl ?_
          refine aa_cons ?_ aa_nil
          refine aone_enter (listed' := #[true, true, true, true, true, true, true, true, false, false, false, false, false, false, false, false, false, false, false, false, false, false, false, false, false]) (f := 44) (d := 19) (A := [sV x1.v]) (st1 := mk 38 [(0, .one (.c (.sl 2 ((xs).map ePair)))), (3, iV (((k : Nat) : Int))), (4, .one (.pl [(4, 0)] 0 0)), (5, .one (.c (.sl 2 ((xs).map ePair)))), (6, iV (((((xs).map ePair).length : Nat) : Int))), (7, iV (((k : Nat) : Int))), (16, bV false), (19, bV (uvalOk x1.v))] [(4, [.bx [sC x1.k, sC x1.v]])]) [0, 3, 4, 5, 6, 7, 16, 19] (ok44 x1.v) Try.call44 (by kernel_rfl) (by kernel_rfl) (by kernel_rfl) (by kernel_rfl) ?_
          refine aa_take (fuel := 14) (listed' := #[true, true, true, true, true, true, true, true, true, true, true, false, false, false, false, false, false, false, false, false, false, false, false, false, false]) (st' := mk 38 [(0, .one (.c (.sl 2 ((xs).map ePair)))), (3, iV (((k : Nat) : Int))), (4, .one (.pl [(4, 0)] 0 0)), (5, .one (.c (.sl 2 ((xs).map ePair)))), (6, iV (((((xs).map ePair).length : Nat) : Int))), (7, iV (((k : Nat) : Int))), (22, bV (!(uvalOk x1.v)))] [(4, [.bx [sC x1.k, sC x1.v]])]) [8, 9, 10] [0, 3, 4, 5, 6, 7, 22] tyOK (by kernel_rfl) (by kernel_rfl) (by kernel_rfl) ?_
          rcases Bool.eq_false_or_eq_true (!(uvalOk x1.v)) with h3 | h3
          · rw [h3]
            have g3 := h3
            try simp only [decide_eq_true_eq, decide_eq_false_iff_not, List.length_map, bne_iff_ne, bne_eq_false_iff_eq, beq_iff_eq, beq_eq_false_iff_ne, Bool.not_eq_true, Bool.not_eq_false, Bool.not_eq_true'] at g3
            refine aa_take (fuel := 0) (listed' := #[true, true, true, true, true, true, true, true, true, true, true, true, true, true, true, true, true, true, true, true, true, true, true, true, true]) (st' := mk 38 [(0, .one (.c (.sl 2 ((xs).map ePair)))), (5, .one (.c (.sl 2 ((xs).map ePair)))), (6, iV (((((xs).map ePair).length : Nat) : Int))), (7, iV (((k : Nat) : Int))), (36, bV true)] []) [11, 12, 13, 14, 15, 16, 17, 18, 19, 20, 21, 22, 23, 24] [0, 5, 6, 7, 36] tyOK (by kernel_rfl) (by kernel_rfl) (by kernel_rfl) ?_
            refine aa_done (by kernel_rfl) ?_
            show _ = _; kernel_rfl
          · rw [h3]
            have g3 := h3
            try simp only [decide_eq_true_eq, decide_eq_false_iff_not, List.length_map, bne_iff_ne, bne_eq_false_iff_eq, beq_iff_eq, beq_eq_false_iff_ne, Bool.not_eq_true, Bool.not_eq_false, Bool.not_eq_true'] at g3
            refine aa_take (fuel := 11) (listed' := #[true, true, true, true, true, true, true, true, true, true, true, true, true, true, false, false, false, false, false, false, false, false, false, false, false]) (st' := mk 38 [(0, .one (.c (.sl 2 ((xs).map ePair)))), (3, iV (((k : Nat) : Int))), (4, .one (.pl [(4, 0)] 0 0)), (5, .one (.c (.sl 2 ((xs).map ePair)))), (6, iV (((((xs).map ePair).length : Nat) : Int))), (7, iV (((k : Nat) : Int))), (22, bV false), (25, bV (decide ((((k : Nat) : Int)) > 0)))] [(4, [.bx [sC x1.k, sC x1.v]])]) [11, 12, 13] [0, 3, 4, 5, 6, 7, 22, 25] tyOK (by kernel_rfl) (by kernel_rfl) (by kernel_rfl) ?_
            rcases Bool.eq_false_or_eq_true (decide ((((k : Nat) : Int)) > 0)) with h4 | h4
            · rw [h4]
              have g4 := h4
              try simp only [decide_eq_true_eq, decide_eq_false_iff_not, List.length_map, bne_iff_ne, bne_eq_false_iff_eq, beq_iff_eq, beq_eq_false_iff_ne, Bool.not_eq_true, Bool.not_eq_false, Bool.not_eq_true'] at g4
              refine aa_take (fuel := 6) (listed' := #[true, true, true, true, true, true, true, true, true, true, true, true, true, true, true, true, true, false, false, false, true, true, false, false, false]) (st' := mk 38 [(0, .one (.c (.sl 2 ((xs).map ePair)))), (5, .one (.c (.sl 2 ((xs).map ePair)))), (6, iV (((((xs).map ePair).length : Nat) : Int))), (7, iV (((k : Nat) : Int))), (22, bV false), (25, bV true), (26, .one (.c (.sl 2 ((xs).map ePair)))), (28, iV (IntKind.wrap .i64 ((((k : Nat) : Int)) - 1))), (33, sV x1.k)] []) [14, 15, 16, 20, 21] [0, 5, 6, 7, 22, 25, 26, 28, 33] tyOK (by kernel_rfl) (by kernel_rfl) (by kernel_rfl) ?_
              have p2 : 0 ≤ (IntKind.wrap .i64 ((((k : Nat) : Int)) - 1)) ∧ (IntKind.wrap .i64 ((((k : Nat) : Int)) - 1)).toNat < (xs).length := by first | omega | (rw [mv_wrap (by omega) (by omega)]; omega)
              have q2 := el_get p2.2
              have r2 := q2
              try simp only [Int.toNat_natCast] at r2
              refine aa_index (i := 17) (d := 29) (size := 2) (n := IntKind.wrap .i64 ((((k : Nat) : Int)) - 1)) (rows := (xs).map ePair) (listed' := #[true, true, true, true, true, true, true, true, true, true, true, true, true, true, true, true, true, true, false, false, true, true, false, false, false]) (st1 := mk 38 [(0, .one (.c (.sl 2 ((xs).map ePair)))), (5, .one (.c (.sl 2 ((xs).map ePair)))), (6, iV (((((xs).map ePair).length : Nat) : Int))), (7, iV (((k : Nat) : Int))), (22, bV false), (25, bV true), (29, .one (.fp [sC (((el xs (IntKind.wrap .i64 ((((k : Nat) : Int)) - 1)))).k), sC (((el xs (IntKind.wrap .i64 ((((k : Nat) : Int)) - 1)))).v)] 0)), (33, sV x1.k)] []) (ePair (el xs (IntKind.wrap .i64 ((((k : Nat) : Int)) - 1)))) [0, 5, 6, 7, 22, 25, 29, 33] tyOK (by kernel_rfl) (by kernel_rfl) p2.1 (by rw [List.getElem?_map, q2]; rfl) (by kernel_rfl) (by kernel_rfl) (by kernel_rfl) (by kernel_rfl) ?_
              refine aa_take (fuel := 0) (listed' := #[true, true, true, true, true, true, true, true, true, true, true, true, true, true, true, true, true, true, true, true, true, true, true, true, true]) (st' := mk 38 [(0, .one (.c (.sl 2 ((xs).map ePair)))), (5, .one (.c (.sl 2 ((xs).map ePair)))), (6, iV (((((xs).map ePair).length : Nat) : Int))), (7, iV (((k : Nat) : Int))), (36, bV (!Op.bytesLess (((el xs (IntKind.wrap .i64 ((((k : Nat) : Int)) - 1)))).k).toList x1.k.toList))] []) [18, 19, 22, 23, 24] [0, 5, 6, 7, 36] tyOK (by kernel_rfl) (by kernel_rfl) (by kernel_rfl) ?_
              refine aa_done (by kernel_rfl) ?_
              show _ = _; kernel_rfl
            · rw [h4]
              have g4 := h4
              try simp only [decide_eq_true_eq, decide_eq_false_iff_not, List.length_map, bne_iff_ne, bne_eq_false_iff_eq, beq_iff_eq, beq_eq_false_iff_ne, Bool.not_eq_true, Bool.not_eq_false, Bool.not_eq_true'] at g4
              refine aa_take (fuel := 0) (listed' := #[true, true, true, true, true, true, true, true, true, true, true, true, true, true, true, true, true, true, true, true, true, true, true, true, true]) (st' := mk 38 [(0, .one (.c (.sl 2 ((xs).map ePair)))), (5, .one (.c (.sl 2 ((xs).map ePair)))), (6, iV (((((xs).map ePair).length : Nat) : Int))), (7, iV (((k : Nat) : Int))), (36, bV false)] []) [14, 15, 16, 17, 18, 19, 20, 21, 22, 23, 24] [0, 5, 6, 7, 36] tyOK (by kernel_rfl) (by kernel_rfl) (by kernel_rfl) ?_
              refine aa_done (by kernel_rfl) ?_
              show _ = _; kernel_rfl
      refine a_cond (b := bif (!(userOk x1.k)) then true else (bif (!(uvalOk x1.v)) then true else (bif (decide ((((k : Nat) : Int)) > 0)) then (!Op.bytesLess (((el xs (IntKind.wrap .i64 ((((k : Nat) : Int)) - 1)))).k).toList x1.k.toList) else false))) (by kernel_rfl) (fun h5 => ?_) (fun h5 => ?_)
      · have g5 := h5
        try simp only [decide_eq_true_eq, decide_eq_false_iff_not, List.length_map, bne_iff_ne, bne_eq_false_iff_eq, beq_iff_eq, beq_eq_false_iff_ne, Bool.not_eq_true, Bool.not_eq_false, Bool.not_eq_true'] at g5
        refine a_seq ?_
        refine a_run [2] tyOK (st1 := mk 38 [(2, bV false)] []) (by kernel_rfl) ?_
        refine a_ret ?_
        have e : dataOk xs = false := by
            rw [← hR, drop_of_get r1, dataL, if_pos (by rw [← bad_eq (by omega) hn]; exact h5)]
        exact end_eq (res' := bV false) (by kernel_rfl) (by rw [e])
      · have g5 := h5
        try simp only [decide_eq_true_eq, decide_eq_false_iff_not, List.length_map, bne_iff_ne, bne_eq_false_iff_eq, beq_iff_eq, beq_eq_false_iff_ne, Bool.not_eq_true, Bool.not_eq_false, Bool.not_eq_true'] at g5
        refine a_skip ?_
        refine a_run [0, 5, 6, 7] tyOK (st1 := mk 38 [(0, .one (.c (.sl 2 ((xs).map ePair)))), (5, .one (.c (.sl 2 ((xs).map ePair)))), (6, iV (((((xs).map ePair).length : Nat) : Int))), (7, iV (IntKind.wrap .i64 ((((k : Nat) : Int)) + 1)))] []) (by kernel_rfl) ?_
        refine ⟨⟨(k + 1), ?_⟩, ?_, ?_⟩
        · exact ⟨by omega, by rw [← hR, drop_of_get r1, dataL, if_neg (by rw [← bad_eq (by omega) hn]; exact Bool.eq_false_iff.1 h5)]; show dataL (xs[k]?) _ = _; rw [r1]⟩
        · exact (show _ = mk 38 [(0, .one (.c (.sl 2 ((xs).map ePair)))), (5, .one (.c (.sl 2 ((xs).map ePair)))), (6, iV (((((xs).map ePair).length : Nat) : Int))), (7, iV (IntKind.wrap .i64 ((((k : Nat) : Int)) + 1)))] [] by kernel_rfl).trans (by rw [mv_wrap (by omega) (by omega)]; rfl)
        · dsimp only; omega
    · have g1 := h1
      try simp only [decide_eq_true_eq, decide_eq_false_iff_not, List.length_map, bne_iff_ne, bne_eq_false_iff_eq, beq_iff_eq, beq_eq_false_iff_ne, Bool.not_eq_true, Bool.not_eq_false, Bool.not_eq_true'] at g1
      refine a_exit ?_
      refine a_seq ?_
      refine a_run [2] tyOK (st1 := mk 38 [(2, bV true)] []) (by kernel_rfl) ?_
      refine a_ret ?_
      have e : dataOk xs = true := by
          rw [← hR, List.drop_eq_nil_of_le (by omega), dataL]
      exact end_eq (res' := bV true) (by kernel_rfl) (by rw [e])

theorem userPair_eq (p : Pair) : userPair p = (userOk p.k && uvalOk p.v) := by
  have h : userOkI p.k = userOk p.k := rfl
  unfold userPair
  rw [h, show uvalOkI p.v = uvalOk p.v from rfl]
  cases userOk p.k <;> rfl
theorem bad_eqI {xs : List Pair} {k : Nat} {x : Pair} (hk : k < xs.length) (hn : xs.length < 4611686018427387904) :
    (bif (!(userPair x)) then true else (bif (decide ((((k : Nat) : Int)) > 0)) then (!Op.bytesLess (((el xs (IntKind.wrap .i64 ((((k : Nat) : Int)) - 1)))).k).toList x.k.toList) else false)) = bad (prevOf xs k) x := by
  rw [← bad_eq hk hn, userPair_eq]
  cases userOk x.k <;> cases uvalOk x.v <;> rfl

structure L12_1 (xs : (List Pair)) where
  k : Nat
  inv : k ≤ xs.length ∧ dataL (prevOf xs k) (xs.drop k) = dataOk xs

/-- impl.DataOk -/
theorem ok12 (xs : (List Pair)) (hn : xs.length < 4611686018427387904) : CallOK Try.prog 12 [.one (.c (.sl 2 ((xs).map ePair)))] (bV (dataOk xs)) [] :=
  callOK tyOK Try.func12 rfl fun w S hS => by
    refine a_seq ?_
    refine a_run [0] tyOK (st1 := mk 31 [(0, .one (.c (.sl 2 ((xs).map ePair))))] []) (by kernel_rfl) ?_
    refine a_seq ?_
    refine a_seq ?_
    refine a_run [0, 5, 6, 7] tyOK (st1 := mk 31 [(0, .one (.c (.sl 2 ((xs).map ePair)))), (5, .one (.c (.sl 2 ((xs).map ePair)))), (6, iV (((((xs).map ePair).length : Nat) : Int))), (7, iV 0)] []) (by kernel_rfl) ?_
    refine a_block ?_
    refine a_keep [0, 5, 6, 7] ?_
    refine a_loop (ι := L12_1 xs) (fun ⟨k, _⟩ => mk 31 [(0, .one (.c (.sl 2 ((xs).map ePair)))), (5, .one (.c (.sl 2 ((xs).map ePair)))), (6, iV (((((xs).map ePair).length : Nat) : Int))), (7, iV (((k : Nat) : Int)))] []) (fun ⟨k, _⟩ => xs.length - k) ⟨0, Nat.zero_le _, rfl⟩ (by kernel_rfl) ?_
    rintro ⟨k, hI⟩
    obtain ⟨hk, hR⟩ := hI
    show AWp _ _ _ _ (mk 31 [(0, .one (.c (.sl 2 ((xs).map ePair)))), (5, .one (.c (.sl 2 ((xs).map ePair)))), (6, iV (((((xs).map ePair).length : Nat) : Int))), (7, iV (((k : Nat) : Int)))] [])
    refine a_seq ?_
    refine a_run [0, 5, 6, 7, 8] tyOK (st1 := mk 31 [(0, .one (.c (.sl 2 ((xs).map ePair)))), (5, .one (.c (.sl 2 ((xs).map ePair)))), (6, iV (((((xs).map ePair).length : Nat) : Int))), (7, iV (((k : Nat) : Int))), (8, bV (decide ((((k : Nat) : Int)) < (((((xs).map ePair).length : Nat) : Int)))))] []) (by kernel_rfl) ?_
    refine a_seq ?_
    refine a_cond (b := decide ((((k : Nat) : Int)) < (((((xs).map ePair).length : Nat) : Int)))) (by kernel_rfl) (fun h1 => ?_) (fun h1 => ?_)
    · have g1 := h1
      try simp only [decide_eq_true_eq, decide_eq_false_iff_not, List.length_map, bne_iff_ne, bne_eq_false_iff_eq, beq_iff_eq, beq_eq_false_iff_ne, Bool.not_eq_true, Bool.not_eq_false, Bool.not_eq_true'] at g1
      refine a_skip ?_
      refine a_seq ?_
      refine a_block ?_
      refine a_seq ?_
      refine a_ops [0, 1, 2, 3, 4, 5] (by kernel_rfl) ?_
      refine ao_some [0] [1, 2, 3, 4, 5] [0, 5, 6, 7, 9] tyOK (st1 := mk 31 [(0, .one (.c (.sl 2 ((xs).map ePair)))), (5, .one (.c (.sl 2 ((xs).map ePair)))), (6, iV (((((xs).map ePair).length : Nat) : Int))), (7, iV (((k : Nat) : Int))), (9, iV (((k : Nat) : Int)))] []) (by kernel_rfl) ?_
      have p1 : 0 ≤ (((k : Nat) : Int)) ∧ (((k : Nat) : Int)).toNat < (xs).length := by first | omega | (rw [mv_wrap (by omega) (by omega)]; omega)
      obtain ⟨x1, q1⟩ : ∃ x, (xs)[(((k : Nat) : Int)).toNat]? = some x := ⟨_, List.getElem?_eq_getElem p1.2⟩
      have r1 := q1
      try simp only [Int.toNat_natCast] at r1
      refine ao_index (d := 10) (size := 2) (n := ((k : Nat) : Int)) (rows := (xs).map ePair) (st1 := mk 31 [(0, .one (.c (.sl 2 ((xs).map ePair)))), (5, .one (.c (.sl 2 ((xs).map ePair)))), (6, iV (((((xs).map ePair).length : Nat) : Int))), (7, iV (((k : Nat) : Int))), (9, iV (((k : Nat) : Int))), (10, .one (.fp [sC x1.k, sC x1.v] 0))] []) (ePair x1) [0, 5, 6, 7, 9, 10] tyOK (by kernel_rfl) p1.1 (by rw [List.getElem?_map, q1]; rfl) (by kernel_rfl) (by kernel_rfl) ?_
      refine ao_some [2, 3, 4, 5] [] [0, 3, 4, 5, 6, 7] tyOK (st1 := mk 31 [(0, .one (.c (.sl 2 ((xs).map ePair)))), (3, iV (((k : Nat) : Int))), (4, .one (.pl [(4, 0)] 0 0)), (5, .one (.c (.sl 2 ((xs).map ePair)))), (6, iV (((((xs).map ePair).length : Nat) : Int))), (7, iV (((k : Nat) : Int)))] [(4, [.bx [sC x1.k, sC x1.v]])]) (by kernel_rfl) ?_
      refine ao_nil ?_
      refine a_seq ?_
      refine a_mid (mk 31 [(0, .one (.c (.sl 2 ((xs).map ePair)))), (5, .one (.c (.sl 2 ((xs).map ePair)))), (6, iV (((((xs).map ePair).length : Nat) : Int))), (7, iV (((k : Nat) : Int))), (29, bV (bif (!(userPair x1)) then true else (bif (decide ((((k : Nat) : Int)) > 0)) then (!Op.bytesLess (((el xs (IntKind.wrap .i64 ((((k : Nat) : Int)) - 1)))).k).toList x1.k.toList) else false)))] []) ?_ ?_
      · refine a_drawn (n := 18) [] (by kernel_rfl) (by kernel_rfl) ?_
        refine aa_take (fuel := 17) (listed' := #[true, false, false, false, false, false, false, false, false, false, false, false, false, false, false, false, false, false]) (st' := mk 31 [(0, .one (.c (.sl 2 ((xs).map ePair)))), (3, iV (((k : Nat) : Int))), (4, .one (.pl [(4, 0)] 0 0)), (5, .one (.c (.sl 2 ((xs).map ePair)))), (6, iV (((((xs).map ePair).length : Nat) : Int))), (7, iV (((k : Nat) : Int))), (12, .agg [.c (sC x1.k), .c (sC x1.v)])] [(4, [.bx [sC x1.k, sC x1.v]])]) [0] [0, 3, 4, 5, 6, 7, 12] tyOK (by kernel_rfl) (by kernel_rfl) (by kernel_rfl) ?_
        refine aa_all [1] (by kernel_rfl) rfl ?_
        refine aa_cons ?_ aa_nil
        refine aone_enter (listed' := #[true, true, false, false, false, false, false, false, false, false, false, false, false, false, false, false, false, false]) (f := 46) (d := 13) (A := [.agg [.c (sC x1.k), .c (sC x1.v)]]) (st1 := mk 31 [(0, .one (.c (.sl 2 ((xs).map ePair)))), (3, iV (((k : Nat) : Int))), (4, .one (.pl [(4, 0)] 0 0)), (5, .one (.c (.sl 2 ((xs).map ePair)))), (6, iV (((((xs).map ePair).length : Nat) : Int))), (7, iV (((k : Nat) : Int))), (13, bV (userPair x1))] [(4, [.bx [sC x1.k, sC x1.v]])]) [0, 3, 4, 5, 6, 7, 13] (ok46 x1) Try.call46 (by kernel_rfl) (by kernel_rfl) (by kernel_rfl) (by kernel_rfl) ?_
        refine aa_take (fuel := 14) (listed' := #[true, true, true, true, false, false, false, false, false, false, false, false, false, false, false, false, false, false]) (st' := mk 31 [(0, .one (.c (.sl 2 ((xs).map ePair)))), (3, iV (((k : Nat) : Int))), (4, .one (.pl [(4, 0)] 0 0)), (5, .one (.c (.sl 2 ((xs).map ePair)))), (6, iV (((((xs).map ePair).length : Nat) : Int))), (7, iV (((k : Nat) : Int))), (15, bV (!(userPair x1)))] [(4, [.bx [sC x1.k, sC x1.v]])]) [2, 3] [0, 3, 4, 5, 6, 7, 15] tyOK (by kernel_rfl) (by kernel_rfl) (by kernel_rfl) ?_
        rcases Bool.eq_false_or_eq_true (!(userPair x1)) with h2 | h2
        · rw [h2]
          have g2 := h2
          try simp only [decide_eq_true_eq, decide_eq_false_iff_not, List.length_map, bne_iff_ne, bne_eq_false_iff_eq, beq_iff_eq, beq_eq_false_iff_ne, Bool.not_eq_true, Bool.not_eq_false, Bool.not_eq_true'] at g2
          refine aa_take (fuel := 0) (listed' := #[true, true, true, true, true, true, true, true, true, true, true, true, true, true, true, true, true, true]) (st' := mk 31 [(0, .one (.c (.sl 2 ((xs).map ePair)))), (5, .one (.c (.sl 2 ((xs).map ePair)))), (6, iV (((((xs).map ePair).length : Nat) : Int))), (7, iV (((k : Nat) : Int))), (29, bV true)] []) [4, 5, 6, 7, 8, 9, 10, 11, 12, 13, 14, 15, 16, 17] [0, 5, 6, 7, 29] tyOK (by kernel_rfl) (by kernel_rfl) (by kernel_rfl) ?_
          refine aa_done (by kernel_rfl) ?_
          show _ = _; kernel_rfl
        · rw [h2]
          have g2 := h2
          try simp only [decide_eq_true_eq, decide_eq_false_iff_not, List.length_map, bne_iff_ne, bne_eq_false_iff_eq, beq_iff_eq, beq_eq_false_iff_ne, Bool.not_eq_true, Bool.not_eq_false, Bool.not_eq_true'] at g2
          refine aa_take (fuel := 11) (listed' := #[true, true, true, true, true, true, true, false, false, false, false, false, false, false, false, false, false, false]) (st' := mk 31 [(0, .one (.c (.sl 2 ((xs).map ePair)))), (3, iV (((k : Nat) : Int))), (4, .one (.pl [(4, 0)] 0 0)), (5, .one (.c (.sl 2 ((xs).map ePair)))), (6, iV (((((xs).map ePair).length : Nat) : Int))), (7, iV (((k : Nat) : Int))), (15, bV false), (18, bV (decide ((((k : Nat) : Int)) > 0)))] [(4, [.bx [sC x1.k, sC x1.v]])]) [4, 5, 6] [0, 3, 4, 5, 6, 7, 15, 18] tyOK (by kernel_rfl) (by kernel_rfl) (by kernel_rfl) ?_
          rcases Bool.eq_false_or_eq_true (decide ((((k : Nat) : Int)) > 0)) with h3 | h3
          · rw [h3]
            have g3 := h3
            try simp only [decide_eq_true_eq, decide_eq_false_iff_not, List.length_map, bne_iff_ne, bne_eq_false_iff_eq, beq_iff_eq, beq_eq_false_iff_ne, Bool.not_eq_true, Bool.not_eq_false, Bool.not_eq_true'] at g3
            refine aa_take (fuel := 6) (listed' := #[true, true, true, true, true, true, true, true, true, true, false, false, false, true, true, false, false, false]) (st' := mk 31 [(0, .one (.c (.sl 2 ((xs).map ePair)))), (5, .one (.c (.sl 2 ((xs).map ePair)))), (6, iV (((((xs).map ePair).length : Nat) : Int))), (7, iV (((k : Nat) : Int))), (15, bV false), (18, bV true), (19, .one (.c (.sl 2 ((xs).map ePair)))), (21, iV (IntKind.wrap .i64 ((((k : Nat) : Int)) - 1))), (26, sV x1.k)] []) [7, 8, 9, 13, 14] [0, 5, 6, 7, 15, 18, 19, 21, 26] tyOK (by kernel_rfl) (by kernel_rfl) (by kernel_rfl) ?_
            have p2 : 0 ≤ (IntKind.wrap .i64 ((((k : Nat) : Int)) - 1)) ∧ (IntKind.wrap .i64 ((((k : Nat) : Int)) - 1)).toNat < (xs).length := by first | omega | (rw [mv_wrap (by omega) (by omega)]; omega)
            have q2 := el_get p2.2
            have r2 := q2
            try simp only [Int.toNat_natCast] at r2
            refine aa_index (i := 10) (d := 22) (size := 2) (n := IntKind.wrap .i64 ((((k : Nat) : Int)) - 1)) (rows := (xs).map ePair) (listed' := #[true, true, true, true, true, true, true, true, true, true, true, false, false, true, true, false, false, false]) (st1 := mk 31 [(0, .one (.c (.sl 2 ((xs).map ePair)))), (5, .one (.c (.sl 2 ((xs).map ePair)))), (6, iV (((((xs).map ePair).length : Nat) : Int))), (7, iV (((k : Nat) : Int))), (15, bV false), (18, bV true), (22, .one (.fp [sC (((el xs (IntKind.wrap .i64 ((((k : Nat) : Int)) - 1)))).k), sC (((el xs (IntKind.wrap .i64 ((((k : Nat) : Int)) - 1)))).v)] 0)), (26, sV x1.k)] []) (ePair (el xs (IntKind.wrap .i64 ((((k : Nat) : Int)) - 1)))) [0, 5, 6, 7, 15, 18, 22, 26] tyOK (by kernel_rfl) (by kernel_rfl) p2.1 (by rw [List.getElem?_map, q2]; rfl) (by kernel_rfl) (by kernel_rfl) (by kernel_rfl) (by kernel_rfl) ?_
            refine aa_take (fuel := 0) (listed' := #[true, true, true, true, true, true, true, true, true, true, true, true, true, true, true, true, true, true]) (st' := mk 31 [(0, .one (.c (.sl 2 ((xs).map ePair)))), (5, .one (.c (.sl 2 ((xs).map ePair)))), (6, iV (((((xs).map ePair).length : Nat) : Int))), (7, iV (((k : Nat) : Int))), (29, bV (!Op.bytesLess (((el xs (IntKind.wrap .i64 ((((k : Nat) : Int)) - 1)))).k).toList x1.k.toList))] []) [11, 12, 15, 16, 17] [0, 5, 6, 7, 29] tyOK (by kernel_rfl) (by kernel_rfl) (by kernel_rfl) ?_
            refine aa_done (by kernel_rfl) ?_
            show _ = _; kernel_rfl
          · rw [h3]
            have g3 := h3
            try simp only [decide_eq_true_eq, decide_eq_false_iff_not, List.length_map, bne_iff_ne, bne_eq_false_iff_eq, beq_iff_eq, beq_eq_false_iff_ne, Bool.not_eq_true, Bool.not_eq_false, Bool.not_eq_true'] at g3
            refine aa_take (fuel := 0) (listed' := #[true, true, true, true, true, true, true, true, true, true, true, true, true, true, true, true, true, true]) (st' := mk 31 [(0, .one (.c (.sl 2 ((xs).map ePair)))), (5, .one (.c (.sl 2 ((xs).map ePair)))), (6, iV (((((xs).map ePair).length : Nat) : Int))), (7, iV (((k : Nat) : Int))), (29, bV false)] []) [7, 8, 9, 10, 11, 12, 13, 14, 15, 16, 17] [0, 5, 6, 7, 29] tyOK (by kernel_rfl) (by kernel_rfl) (by kernel_rfl) ?_
            refine aa_done (by kernel_rfl) ?_
            show _ = _; kernel_rfl
      refine a_cond (b := bif (!(userPair x1)) then true else (bif (decide ((((k : Nat) : Int)) > 0)) then (!Op.bytesLess (((el xs (IntKind.wrap .i64 ((((k : Nat) : Int)) - 1)))).k).toList x1.k.toList) else false)) (by kernel_rfl) (fun h4 => ?_) (fun h4 => ?_)
      · have g4 := h4
        try simp only [decide_eq_true_eq, decide_eq_false_iff_not, List.length_map, bne_iff_ne, bne_eq_false_iff_eq, beq_iff_eq, beq_eq_false_iff_ne, Bool.not_eq_true, Bool.not_eq_false, Bool.not_eq_true'] at g4
        refine a_seq ?_
        refine a_run [2] tyOK (st1 := mk 31 [(2, bV false)] []) (by kernel_rfl) ?_
        refine a_ret ?_
        have e : dataOk xs = false := by
            rw [← hR, drop_of_get r1, dataL, if_pos (by rw [← bad_eqI (by omega) hn]; exact h4)]
        exact end_eq (res' := bV false) (by kernel_rfl) (by rw [e])
      · have g4 := h4
        try simp only [decide_eq_true_eq, decide_eq_false_iff_not, List.length_map, bne_iff_ne, bne_eq_false_iff_eq, beq_iff_eq, beq_eq_false_iff_ne, Bool.not_eq_true, Bool.not_eq_false, Bool.not_eq_true'] at g4
        refine a_skip ?_
        refine a_run [0, 5, 6, 7] tyOK (st1 := mk 31 [(0, .one (.c (.sl 2 ((xs).map ePair)))), (5, .one (.c (.sl 2 ((xs).map ePair)))), (6, iV (((((xs).map ePair).length : Nat) : Int))), (7, iV (IntKind.wrap .i64 ((((k : Nat) : Int)) + 1)))] []) (by kernel_rfl) ?_
        refine ⟨⟨(k + 1), ?_⟩, ?_, ?_⟩
        · exact ⟨by omega, by rw [← hR, drop_of_get r1, dataL, if_neg (by rw [← bad_eqI (by omega) hn]; exact Bool.eq_false_iff.1 h4)]; show dataL (xs[k]?) _ = _; rw [r1]⟩
        · exact (show _ = mk 31 [(0, .one (.c (.sl 2 ((xs).map ePair)))), (5, .one (.c (.sl 2 ((xs).map ePair)))), (6, iV (((((xs).map ePair).length : Nat) : Int))), (7, iV (IntKind.wrap .i64 ((((k : Nat) : Int)) + 1)))] [] by kernel_rfl).trans (by rw [mv_wrap (by omega) (by omega)]; rfl)
        · dsimp only; omega
    · have g1 := h1
      try simp only [decide_eq_true_eq, decide_eq_false_iff_not, List.length_map, bne_iff_ne, bne_eq_false_iff_eq, beq_iff_eq, beq_eq_false_iff_ne, Bool.not_eq_true, Bool.not_eq_false, Bool.not_eq_true'] at g1
      refine a_exit ?_
      refine a_seq ?_
      refine a_run [2] tyOK (st1 := mk 31 [(2, bV true)] []) (by kernel_rfl) ?_
      refine a_ret ?_
      have e : dataOk xs = true := by
          rw [← hR, List.drop_eq_nil_of_le (by omega), dataL]
      exact end_eq (res' := bV true) (by kernel_rfl) (by rw [e])

def eqL : List Pair → List Pair → Bool
  | [], [] => true
  | x :: xs, y :: ys => if eqPair x y = true then eqL xs ys else false
  | _, _ => false
def eqPairS (xs ys : List Pair) : Bool := eqL xs ys
theorem eqL_step {xs ys : List Pair} {k : Nat} (hx : k < xs.length) (hy : k < ys.length) : eqL (xs.drop k) (ys.drop k) = if eqPair (el xs (k : Int)) (el ys (k : Int)) = true then eqL (xs.drop (k + 1)) (ys.drop (k + 1)) else false := by
  rw [drop_el hx, drop_el hy, eqL]
theorem eqL_len : ∀ {xs ys : List Pair}, xs.length ≠ ys.length → eqL xs ys = false
  | [], [], h => absurd rfl h
  | [], _ :: _, _ => rfl
  | _ :: _, [], _ => rfl
  | x :: xs, y :: ys, h => by
    rw [eqL]
    split
    · exact eqL_len (by simpa using h)
    · rfl
theorem eqPair_self (p : Pair) : eqPair p p = true := by simp [eqPair]
theorem eqL_self : ∀ xs : List Pair, eqL xs xs = true
  | [] => rfl
  | x :: xs => by rw [eqL, if_pos (eqPair_self x)]; exact eqL_self xs

structure L13_1 (xs : (List Pair)) (ys : (List Pair)) where
  k : Nat
  inv : k ≤ xs.length ∧ xs.length = ys.length ∧ eqL (xs.drop k) (ys.drop k) = eqL xs ys

/-- laws.eqPairS -/
theorem ok13 (xs : (List Pair)) (ys : (List Pair)) (hn : xs.length < 4611686018427387904) : CallOK Try.prog 13 [.one (.c (.sl 2 ((xs).map ePair))), .one (.c (.sl 2 ((ys).map ePair)))] (bV (eqPairS xs ys)) [] :=
  callOK tyOK Try.func13 rfl fun w S hS => by
    refine a_seq ?_
    refine a_run [0, 1] tyOK (st1 := mk 27 [(0, .one (.c (.sl 2 ((xs).map ePair)))), (1, .one (.c (.sl 2 ((ys).map ePair))))] []) (by kernel_rfl) ?_
    refine a_seq ?_
    refine a_seq ?_
    refine a_run [0, 1, 10] tyOK (st1 := mk 27 [(0, .one (.c (.sl 2 ((xs).map ePair)))), (1, .one (.c (.sl 2 ((ys).map ePair)))), (10, bV (((((((xs).map ePair).length : Nat) : Int)) != (((((ys).map ePair).length : Nat) : Int)))))] []) (by kernel_rfl) ?_
    refine a_cond (b := ((((((xs).map ePair).length : Nat) : Int)) != (((((ys).map ePair).length : Nat) : Int)))) (by kernel_rfl) (fun h1 => ?_) (fun h1 => ?_)
    · have g1 := h1
      try simp only [decide_eq_true_eq, decide_eq_false_iff_not, List.length_map, bne_iff_ne, bne_eq_false_iff_eq, beq_iff_eq, beq_eq_false_iff_ne, Bool.not_eq_true, Bool.not_eq_false, Bool.not_eq_true'] at g1
      refine a_seq ?_
      refine a_run [4] tyOK (st1 := mk 27 [(4, bV false)] []) (by kernel_rfl) ?_
      refine a_ret ?_
      have e : eqPairS xs ys = false := by
          rw [eqPairS, eqL_len (by omega)]
      exact end_eq (res' := bV false) (by kernel_rfl) (by rw [e])
    · have g1 := h1
      try simp only [decide_eq_true_eq, decide_eq_false_iff_not, List.length_map, bne_iff_ne, bne_eq_false_iff_eq, beq_iff_eq, beq_eq_false_iff_ne, Bool.not_eq_true, Bool.not_eq_false, Bool.not_eq_true'] at g1
      refine a_skip ?_
      refine a_seq ?_
      refine a_seq ?_
      refine a_run [0, 1, 5] tyOK (st1 := mk 27 [(0, .one (.c (.sl 2 ((xs).map ePair)))), (1, .one (.c (.sl 2 ((ys).map ePair)))), (5, iV 0)] []) (by kernel_rfl) ?_
      refine a_block ?_
      refine a_keep [0, 1, 5] ?_
      refine a_loop (ι := L13_1 xs ys) (fun ⟨k, _⟩ => mk 27 [(0, .one (.c (.sl 2 ((xs).map ePair)))), (1, .one (.c (.sl 2 ((ys).map ePair)))), (5, iV (((k : Nat) : Int)))] []) (fun ⟨k, _⟩ => xs.length - k) ⟨0, Nat.zero_le _, by omega, rfl⟩ (by kernel_rfl) ?_
      rintro ⟨k, hI⟩
      obtain ⟨hk, hE, hR⟩ := hI
      show AWp _ _ _ _ (mk 27 [(0, .one (.c (.sl 2 ((xs).map ePair)))), (1, .one (.c (.sl 2 ((ys).map ePair)))), (5, iV (((k : Nat) : Int)))] [])
      refine a_seq ?_
      refine a_seq ?_
      refine a_run [0, 1, 5, 14] tyOK (st1 := mk 27 [(0, .one (.c (.sl 2 ((xs).map ePair)))), (1, .one (.c (.sl 2 ((ys).map ePair)))), (5, iV (((k : Nat) : Int))), (14, bV (decide ((((k : Nat) : Int)) < (((((xs).map ePair).length : Nat) : Int)))))] []) (by kernel_rfl) ?_
      refine a_cond (b := decide ((((k : Nat) : Int)) < (((((xs).map ePair).length : Nat) : Int)))) (by kernel_rfl) (fun h2 => ?_) (fun h2 => ?_)
      · have g2 := h2
        try simp only [decide_eq_true_eq, decide_eq_false_iff_not, List.length_map, bne_iff_ne, bne_eq_false_iff_eq, beq_iff_eq, beq_eq_false_iff_ne, Bool.not_eq_true, Bool.not_eq_false, Bool.not_eq_true'] at g2
        refine a_skip ?_
        refine a_seq ?_
        refine a_block ?_
        refine a_seq ?_
        refine a_mid (mk 27 [(0, .one (.c (.sl 2 ((xs).map ePair)))), (1, .one (.c (.sl 2 ((ys).map ePair)))), (5, iV (((k : Nat) : Int))), (26, bV (!(eqPair ((el xs (((k : Nat) : Int)))) ((el ys (((k : Nat) : Int)))))))] []) ?_ ?_
        · refine a_drawn (n := 10) [] (by kernel_rfl) (by kernel_rfl) ?_
          refine aa_take (fuel := 6) (listed' := #[true, true, false, false, true, true, false, false, false, false]) (st' := mk 27 [(0, .one (.c (.sl 2 ((xs).map ePair)))), (1, .one (.c (.sl 2 ((ys).map ePair)))), (5, iV (((k : Nat) : Int))), (17, .one (.c (.sl 2 ((xs).map ePair)))), (18, iV (((k : Nat) : Int))), (21, .one (.c (.sl 2 ((ys).map ePair)))), (22, iV (((k : Nat) : Int)))] []) [0, 1, 4, 5] [0, 1, 5, 17, 18, 21, 22] tyOK (by kernel_rfl) (by kernel_rfl) (by kernel_rfl) ?_
          have p1 : 0 ≤ (((k : Nat) : Int)) ∧ (((k : Nat) : Int)).toNat < (xs).length := by first | omega | (rw [mv_wrap (by omega) (by omega)]; omega)
          have q1 := el_get p1.2
          have r1 := q1
          try simp only [Int.toNat_natCast] at r1
          refine aa_index (i := 2) (d := 19) (size := 2) (n := ((k : Nat) : Int)) (rows := (xs).map ePair) (listed' := #[true, true, true, false, true, true, false, false, false, false]) (st1 := mk 27 [(0, .one (.c (.sl 2 ((xs).map ePair)))), (1, .one (.c (.sl 2 ((ys).map ePair)))), (5, iV (((k : Nat) : Int))), (19, .one (.fp [sC (((el xs (((k : Nat) : Int)))).k), sC (((el xs (((k : Nat) : Int)))).v)] 0)), (21, .one (.c (.sl 2 ((ys).map ePair)))), (22, iV (((k : Nat) : Int)))] []) (ePair (el xs (((k : Nat) : Int)))) [0, 1, 5, 19, 21, 22] tyOK (by kernel_rfl) (by kernel_rfl) p1.1 (by rw [List.getElem?_map, q1]; rfl) (by kernel_rfl) (by kernel_rfl) (by kernel_rfl) (by kernel_rfl) ?_
          refine aa_take (fuel := 4) (listed' := #[true, true, true, true, true, true, false, false, false, false]) (st' := mk 27 [(0, .one (.c (.sl 2 ((xs).map ePair)))), (1, .one (.c (.sl 2 ((ys).map ePair)))), (5, iV (((k : Nat) : Int))), (20, .agg [.c (sC (((el xs (((k : Nat) : Int)))).k)), .c (sC (((el xs (((k : Nat) : Int)))).v))]), (21, .one (.c (.sl 2 ((ys).map ePair)))), (22, iV (((k : Nat) : Int)))] []) [3] [0, 1, 5, 20, 21, 22] tyOK (by kernel_rfl) (by kernel_rfl) (by kernel_rfl) ?_
          have p2 : 0 ≤ (((k : Nat) : Int)) ∧ (((k : Nat) : Int)).toNat < (ys).length := by first | omega | (rw [mv_wrap (by omega) (by omega)]; omega)
          have q2 := el_get p2.2
          have r2 := q2
          try simp only [Int.toNat_natCast] at r2
          refine aa_index (i := 6) (d := 23) (size := 2) (n := ((k : Nat) : Int)) (rows := (ys).map ePair) (listed' := #[true, true, true, true, true, true, true, false, false, false]) (st1 := mk 27 [(0, .one (.c (.sl 2 ((xs).map ePair)))), (1, .one (.c (.sl 2 ((ys).map ePair)))), (5, iV (((k : Nat) : Int))), (20, .agg [.c (sC (((el xs (((k : Nat) : Int)))).k)), .c (sC (((el xs (((k : Nat) : Int)))).v))]), (23, .one (.fp [sC (((el ys (((k : Nat) : Int)))).k), sC (((el ys (((k : Nat) : Int)))).v)] 0))] []) (ePair (el ys (((k : Nat) : Int)))) [0, 1, 5, 20, 23] tyOK (by kernel_rfl) (by kernel_rfl) p2.1 (by rw [List.getElem?_map, q2]; rfl) (by kernel_rfl) (by kernel_rfl) (by kernel_rfl) (by kernel_rfl) ?_
          refine aa_take (fuel := 2) (listed' := #[true, true, true, true, true, true, true, true, false, false]) (st' := mk 27 [(0, .one (.c (.sl 2 ((xs).map ePair)))), (1, .one (.c (.sl 2 ((ys).map ePair)))), (5, iV (((k : Nat) : Int))), (20, .agg [.c (sC (((el xs (((k : Nat) : Int)))).k)), .c (sC (((el xs (((k : Nat) : Int)))).v))]), (24, .agg [.c (sC (((el ys (((k : Nat) : Int)))).k)), .c (sC (((el ys (((k : Nat) : Int)))).v))])] []) [7] [0, 1, 5, 20, 24] tyOK (by kernel_rfl) (by kernel_rfl) (by kernel_rfl) ?_
          refine aa_all [8] (by kernel_rfl) rfl ?_
          refine aa_cons ?_ aa_nil
          refine aone_enter (listed' := #[true, true, true, true, true, true, true, true, true, false]) (f := 47) (d := 25) (A := [.agg [.c (sC (((el xs (((k : Nat) : Int)))).k)), .c (sC (((el xs (((k : Nat) : Int)))).v))], .agg [.c (sC (((el ys (((k : Nat) : Int)))).k)), .c (sC (((el ys (((k : Nat) : Int)))).v))]]) (st1 := mk 27 [(0, .one (.c (.sl 2 ((xs).map ePair)))), (1, .one (.c (.sl 2 ((ys).map ePair)))), (5, iV (((k : Nat) : Int))), (25, bV (eqPair ((el xs (((k : Nat) : Int)))) ((el ys (((k : Nat) : Int))))))] []) [0, 1, 5, 25] (ok47 ((el xs (((k : Nat) : Int)))) ((el ys (((k : Nat) : Int))))) Try.call47 (by kernel_rfl) (by kernel_rfl) (by kernel_rfl) (by kernel_rfl) ?_
          refine aa_take (fuel := 0) (listed' := #[true, true, true, true, true, true, true, true, true, true]) (st' := mk 27 [(0, .one (.c (.sl 2 ((xs).map ePair)))), (1, .one (.c (.sl 2 ((ys).map ePair)))), (5, iV (((k : Nat) : Int))), (26, bV (!(eqPair ((el xs (((k : Nat) : Int)))) ((el ys (((k : Nat) : Int)))))))] []) [9] [0, 1, 5, 26] tyOK (by kernel_rfl) (by kernel_rfl) (by kernel_rfl) ?_
          refine aa_done (by kernel_rfl) ?_
          show _ = _; kernel_rfl
        refine a_cond (b := !(eqPair ((el xs (((k : Nat) : Int)))) ((el ys (((k : Nat) : Int)))))) (by kernel_rfl) (fun h3 => ?_) (fun h3 => ?_)
        · have g3 := h3
          try simp only [decide_eq_true_eq, decide_eq_false_iff_not, List.length_map, bne_iff_ne, bne_eq_false_iff_eq, beq_iff_eq, beq_eq_false_iff_ne, Bool.not_eq_true, Bool.not_eq_false, Bool.not_eq_true'] at g3
          refine a_seq ?_
          refine a_run [4] tyOK (st1 := mk 27 [(4, bV false)] []) (by kernel_rfl) ?_
          refine a_ret ?_
          have e : eqPairS xs ys = false := by
              rw [eqPairS, ← hR, eqL_step (by omega) (by omega), if_neg (by simpa using h3)]
          exact end_eq (res' := bV false) (by kernel_rfl) (by rw [e])
        · have g3 := h3
          try simp only [decide_eq_true_eq, decide_eq_false_iff_not, List.length_map, bne_iff_ne, bne_eq_false_iff_eq, beq_iff_eq, beq_eq_false_iff_ne, Bool.not_eq_true, Bool.not_eq_false, Bool.not_eq_true'] at g3
          refine a_skip ?_
          refine a_run [0, 1, 5] tyOK (st1 := mk 27 [(0, .one (.c (.sl 2 ((xs).map ePair)))), (1, .one (.c (.sl 2 ((ys).map ePair)))), (5, iV (IntKind.wrap .i64 ((((k : Nat) : Int)) + 1)))] []) (by kernel_rfl) ?_
          refine ⟨⟨(k + 1), ?_⟩, ?_, ?_⟩
          · exact ⟨by omega, hE, by rw [← hR, eqL_step (k := k) (by omega) (by omega), if_pos (by simpa using h3)]⟩
          · exact (show _ = mk 27 [(0, .one (.c (.sl 2 ((xs).map ePair)))), (1, .one (.c (.sl 2 ((ys).map ePair)))), (5, iV (IntKind.wrap .i64 ((((k : Nat) : Int)) + 1)))] [] by kernel_rfl).trans (by rw [mv_wrap (by omega) (by omega)]; rfl)
          · dsimp only; omega
      · have g2 := h2
        try simp only [decide_eq_true_eq, decide_eq_false_iff_not, List.length_map, bne_iff_ne, bne_eq_false_iff_eq, beq_iff_eq, beq_eq_false_iff_ne, Bool.not_eq_true, Bool.not_eq_false, Bool.not_eq_true'] at g2
        refine a_exit ?_
        refine a_seq ?_
        refine a_run [4] tyOK (st1 := mk 27 [(4, bV true)] []) (by kernel_rfl) ?_
        refine a_ret ?_
        have e : eqPairS xs ys = true := by
            rw [eqPairS, ← hR, List.drop_eq_nil_of_le (by omega), List.drop_eq_nil_of_le (by omega), eqL]
        exact end_eq (res' := bV true) (by kernel_rfl) (by rw [e])


def toPair (p : Pair) : Pair := p
/-- laws.toPair -/
theorem ok45 (p : Pair) : CallOK Try.prog 45 [.agg [.c (sC p.k), .c (sC p.v)]] (.agg [.c (sC ((toPair p).k)), .c (sC ((toPair p).v))]) [] :=
  callOK tyOK Try.func45 rfl fun w S hS => by
    refine a_seq ?_
    refine a_run [1, 2] tyOK (st1 := mk 11 [(1, .one (.pl [(1, 0)] 0 0)), (2, .one (.pl [(2, 0)] 0 0))] [(1, [.bx [sC p.k, sC p.v]]), (2, [.bx [sC ((⟨#[]⟩ : ByteArray)), sC ((⟨#[]⟩ : ByteArray))]])]) (by kernel_rfl) ?_
    refine a_seq ?_
    refine a_run [1, 2, 3] tyOK (st1 := mk 11 [(1, .one (.pl [(1, 0)] 0 0)), (2, .one (.pl [(2, 0)] 0 0)), (3, .one (.pl [(3, 0)] 0 0))] [(1, [.bx [sC p.k, sC p.v]]), (2, [.bx [sC ((⟨#[]⟩ : ByteArray)), sC ((⟨#[]⟩ : ByteArray))]]), (3, [.bx [sC ((⟨#[]⟩ : ByteArray)), sC ((⟨#[]⟩ : ByteArray))]])]) (by kernel_rfl) ?_
    refine a_seq ?_
    refine a_run [1, 2, 3] tyOK (st1 := mk 11 [(1, .one (.pl [(1, 0)] 0 0)), (2, .one (.pl [(2, 0)] 0 0)), (3, .one (.pl [(3, 0)] 0 0))] [(1, [.bx [sC p.k, sC p.v]]), (2, [.bx [sC ((⟨#[]⟩ : ByteArray)), sC ((⟨#[]⟩ : ByteArray))]]), (3, [.bx [sC p.k, sC ((⟨#[]⟩ : ByteArray))]])]) (by kernel_rfl) ?_
    refine a_seq ?_
    refine a_run [2, 3] tyOK (st1 := mk 11 [(2, .one (.pl [(2, 0)] 0 0)), (3, .one (.pl [(3, 0)] 0 0))] [(2, [.bx [sC ((⟨#[]⟩ : ByteArray)), sC ((⟨#[]⟩ : ByteArray))]]), (3, [.bx [sC p.k, sC p.v]])]) (by kernel_rfl) ?_
    refine a_seq ?_
    refine a_run [2] tyOK (st1 := mk 11 [(2, .one (.pl [(2, 0)] 0 0))] [(2, [.bx [sC p.k, sC p.v]])]) (by kernel_rfl) ?_
    refine a_ret ?_
    have e : toPair p = p := by rw [toPair]
    exact end_eq (res' := .agg [.c (sC p.k), .c (sC p.v)]) (by kernel_rfl) (by rw [e])

def fillP (xs : List Pair) (k : Nat) : List (List C) := (xs.take k).map ePair ++ List.replicate (xs.length - k) [sC (⟨#[]⟩ : ByteArray), sC (⟨#[]⟩ : ByteArray)]
def toPairS (xs : List Pair) : List Pair := xs
theorem fillP_get {xs : List Pair} {k : Nat} (h : k < xs.length) : (fillP xs k)[k]? = some [sC (⟨#[]⟩ : ByteArray), sC (⟨#[]⟩ : ByteArray)] := by
  unfold fillP
  rw [List.getElem?_append_right (by simp; omega), List.getElem?_replicate, if_pos (by simp; omega)]
theorem fillP_set {xs : List Pair} {k : Nat} {x : Pair} (h : xs[k]? = some x) : (fillP xs k).set k (ePair x) = fillP xs (k + 1) := by
  obtain ⟨hk, rfl⟩ := List.getElem?_eq_some_iff.1 h
  unfold fillP
  have e : xs.length - k = (xs.length - (k + 1)) + 1 := by omega
  have e2 : k - ((xs.take k).map ePair).length = 0 := by simp; omega
  rw [List.set_append, if_neg (by simp; omega), List.take_add_one, List.getElem?_eq_getElem hk, e2, e, List.replicate_succ, List.set_cons_zero]
  simp only [Option.toList_some, List.map_append, List.map_cons, List.map_nil, List.append_assoc, List.cons_append, List.nil_append]
theorem fillP_all {xs : List Pair} {k : Nat} (h : xs.length ≤ k) : fillP xs k = xs.map ePair := by
  unfold fillP
  rw [List.take_of_length_le h, Nat.sub_eq_zero_of_le h]
  simp

structure L11_1 (xs : (List Pair)) where
  k : Nat
  inv : k ≤ xs.length

/-- laws.toPairS -/
theorem ok11 (xs : (List Pair)) (hn : xs.length < 4000000000000) : CallOK Try.prog 11 [.one (.c (.sl 2 ((xs).map ePair)))] (.one (.c (.sl 2 ((toPairS xs).map ePair)))) [] :=
  callOK tyOK Try.func11 rfl fun w S hS => by
    refine a_seq ?_
    refine a_run [0] tyOK (st1 := mk 23 [(0, .one (.c (.sl 2 ((xs).map ePair))))] []) (by kernel_rfl) ?_
    refine a_seq ?_
    refine a_ops [0, 1, 2, 3] (by kernel_rfl) ?_
    refine ao_some [0, 1] [2, 3] [0, 6] tyOK (st1 := mk 23 [(0, .one (.c (.sl 2 ((xs).map ePair)))), (6, iV (((((xs).map ePair).length : Nat) : Int)))] []) (by kernel_rfl) ?_
    refine ao_make (d := 7) (size := 2) (bytes := 32) (n := ((((xs).map ePair).length : Nat) : Int)) (c := ((((xs).map ePair).length : Nat) : Int)) (z := [sC ((⟨#[]⟩ : ByteArray)), sC ((⟨#[]⟩ : ByteArray))]) (rows' := fillP xs 0) (st1 := mk 23 [(0, .one (.c (.sl 2 ((xs).map ePair)))), (7, .one (.so [] 7 0 (((xs).map ePair).length)))] [(7, [.sl 2 (fillP xs 0)])]) [0, 7] tyOK (by kernel_rfl) rfl (by omega) (by simp; omega) (by kernel_rfl) (by simp [fillP]) (by kernel_rfl) ?_
    refine ao_some [3] [] [0, 3] tyOK (st1 := mk 23 [(0, .one (.c (.sl 2 ((xs).map ePair)))), (3, .one (.so [] 7 0 (((xs).map ePair).length)))] [(7, [.sl 2 (fillP xs 0)])]) (by kernel_rfl) ?_
    refine ao_nil ?_
    refine a_seq ?_
    refine a_seq ?_
    refine a_run [0, 3, 4] tyOK (st1 := mk 23 [(0, .one (.c (.sl 2 ((xs).map ePair)))), (3, .one (.so [] 7 0 (((xs).map ePair).length))), (4, iV 0)] [(7, [.sl 2 (fillP xs 0)])]) (by kernel_rfl) ?_
    refine a_block ?_
    refine a_keep [0, 3, 4] ?_
    refine a_loop (ι := L11_1 xs) (fun ⟨k, _⟩ => mk 23 [(0, .one (.c (.sl 2 ((xs).map ePair)))), (3, .one (.so [] 7 0 (((xs).map ePair).length))), (4, iV (((k : Nat) : Int)))] [(7, [.sl 2 (fillP xs k)])]) (fun ⟨k, _⟩ => xs.length - k) ⟨0, Nat.zero_le _⟩ (by kernel_rfl) ?_
    rintro ⟨k, hI⟩
    have hk := hI
    show AWp _ _ _ _ (mk 23 [(0, .one (.c (.sl 2 ((xs).map ePair)))), (3, .one (.so [] 7 0 (((xs).map ePair).length))), (4, iV (((k : Nat) : Int)))] [(7, [.sl 2 (fillP xs k)])])
    refine a_seq ?_
    refine a_seq ?_
    refine a_run [0, 3, 4, 11] tyOK (st1 := mk 23 [(0, .one (.c (.sl 2 ((xs).map ePair)))), (3, .one (.so [] 7 0 (((xs).map ePair).length))), (4, iV (((k : Nat) : Int))), (11, bV (decide ((((k : Nat) : Int)) < (((((xs).map ePair).length : Nat) : Int)))))] [(7, [.sl 2 (fillP xs k)])]) (by kernel_rfl) ?_
    refine a_cond (b := decide ((((k : Nat) : Int)) < (((((xs).map ePair).length : Nat) : Int)))) (by kernel_rfl) (fun h1 => ?_) (fun h1 => ?_)
    · have g1 := h1
      try simp only [decide_eq_true_eq, decide_eq_false_iff_not, List.length_map, bne_iff_ne, bne_eq_false_iff_eq, beq_iff_eq, beq_eq_false_iff_ne, Bool.not_eq_true, Bool.not_eq_false, Bool.not_eq_true'] at g1
      refine a_skip ?_
      refine a_seq ?_
      refine a_block ?_
      refine a_ops [0, 1, 2, 3, 4, 5, 6, 7, 8] (by kernel_rfl) ?_
      refine ao_some [0, 1, 2, 3] [4, 5, 6, 7, 8] [0, 3, 4, 14, 15, 16, 17] tyOK (st1 := mk 23 [(0, .one (.c (.sl 2 ((xs).map ePair)))), (3, .one (.so [] 7 0 (((xs).map ePair).length))), (4, iV (((k : Nat) : Int))), (14, .one (.so [] 7 0 (((xs).map ePair).length))), (15, iV (((k : Nat) : Int))), (16, .one (.c (.sl 2 ((xs).map ePair)))), (17, iV (((k : Nat) : Int)))] [(7, [.sl 2 (fillP xs k)])]) (by kernel_rfl) ?_
      have p1 : 0 ≤ (((k : Nat) : Int)) ∧ (((k : Nat) : Int)).toNat < (xs).length := by first | omega | (rw [mv_wrap (by omega) (by omega)]; omega)
      obtain ⟨x1, q1⟩ : ∃ x, (xs)[(((k : Nat) : Int)).toNat]? = some x := ⟨_, List.getElem?_eq_getElem p1.2⟩
      have r1 := q1
      try simp only [Int.toNat_natCast] at r1
      refine ao_index (d := 18) (size := 2) (n := ((k : Nat) : Int)) (rows := (xs).map ePair) (st1 := mk 23 [(0, .one (.c (.sl 2 ((xs).map ePair)))), (3, .one (.so [] 7 0 (((xs).map ePair).length))), (4, iV (((k : Nat) : Int))), (14, .one (.so [] 7 0 (((xs).map ePair).length))), (15, iV (((k : Nat) : Int))), (18, .one (.fp [sC x1.k, sC x1.v] 0))] [(7, [.sl 2 (fillP xs k)])]) (ePair x1) [0, 3, 4, 14, 15, 18] tyOK (by kernel_rfl) p1.1 (by rw [List.getElem?_map, q1]; rfl) (by kernel_rfl) (by kernel_rfl) ?_
      refine ao_some [5] [6, 7, 8] [0, 3, 4, 14, 15, 19] tyOK (st1 := mk 23 [(0, .one (.c (.sl 2 ((xs).map ePair)))), (3, .one (.so [] 7 0 (((xs).map ePair).length))), (4, iV (((k : Nat) : Int))), (14, .one (.so [] 7 0 (((xs).map ePair).length))), (15, iV (((k : Nat) : Int))), (19, .agg [.c (sC x1.k), .c (sC x1.v)])] [(7, [.sl 2 (fillP xs k)])]) (by kernel_rfl) ?_
      refine ao_enter (f := 45) (d := 20) (A := [.agg [.c (sC x1.k), .c (sC x1.v)]]) (st1 := mk 23 [(0, .one (.c (.sl 2 ((xs).map ePair)))), (3, .one (.so [] 7 0 (((xs).map ePair).length))), (4, iV (((k : Nat) : Int))), (14, .one (.so [] 7 0 (((xs).map ePair).length))), (15, iV (((k : Nat) : Int))), (20, .agg [.c (sC ((toPair x1).k)), .c (sC ((toPair x1).v))])] [(7, [.sl 2 (fillP xs k)])]) [0, 3, 4, 14, 15, 20] (ok45 x1) Try.call45 (by kernel_rfl) (by kernel_rfl) (by kernel_rfl) ?_
      refine ao_indexOwn (d := 21) (size := 2) (n0 := (((xs).map ePair).length)) (n := ((k : Nat) : Int)) (p := [(7, 0)]) (rows := fillP xs k) (st1 := mk 23 [(0, .one (.c (.sl 2 ((xs).map ePair)))), (3, .one (.so [] 7 0 (((xs).map ePair).length))), (4, iV (((k : Nat) : Int))), (20, .agg [.c (sC ((toPair x1).k)), .c (sC ((toPair x1).v))]), (21, .one (.pl [(7, 0)] k 0))] [(7, [.sl 2 (fillP xs k)])]) [sC ((⟨#[]⟩ : ByteArray)), sC ((⟨#[]⟩ : ByteArray))] [0, 3, 4, 20, 21] tyOK (by kernel_rfl) (by simp; omega) (by exact fillP_get (by omega)) (by kernel_rfl) (by kernel_rfl) ?_
      refine ao_storeOwn (n := k) (size := 2) (q := [(7, 0)]) (rows := fillP xs k) (rows' := fillP xs (k + 1)) (szs := []) (ts := [.c (sC ((toPair x1).k)), .c (sC ((toPair x1).v))]) (t1 := (mk 23 [(0, .one (.c (.sl 2 ((xs).map ePair)))), (3, .one (.so [] 7 0 (((xs).map ePair).length))), (4, iV (((k : Nat) : Int))), (20, .agg [.c (sC ((toPair x1).k)), .c (sC ((toPair x1).v))]), (21, .one (.pl [(7, 0)] k 0))] [(7, [.sl 2 (fillP xs k)])]).t) (st1 := mk 23 [(0, .one (.c (.sl 2 ((xs).map ePair)))), (3, .one (.so [] 7 0 (((xs).map ePair).length))), (4, iV (((k : Nat) : Int)))] [(7, [.sl 2 (fillP xs (k + 1))])]) [sC ((⟨#[]⟩ : ByteArray)), sC ((⟨#[]⟩ : ByteArray))] [0, 3, 4] tyOK (by kernel_rfl) (by exact fillP_get (by omega)) (by kernel_rfl) (by kernel_rfl) (by exact fillP_set r1) (by kernel_rfl) ?_
      refine ao_nil ?_
      refine a_run [0, 3, 4] tyOK (st1 := mk 23 [(0, .one (.c (.sl 2 ((xs).map ePair)))), (3, .one (.so [] 7 0 (((xs).map ePair).length))), (4, iV (IntKind.wrap .i64 ((((k : Nat) : Int)) + 1)))] [(7, [.sl 2 (fillP xs (k + 1))])]) (by kernel_rfl) ?_
      refine ⟨⟨(k + 1), ?_⟩, ?_, ?_⟩
      · omega
      · exact (show _ = mk 23 [(0, .one (.c (.sl 2 ((xs).map ePair)))), (3, .one (.so [] 7 0 (((xs).map ePair).length))), (4, iV (IntKind.wrap .i64 ((((k : Nat) : Int)) + 1)))] [(7, [.sl 2 (fillP xs (k + 1))])] by kernel_rfl).trans (by rw [mv_wrap (by omega) (by omega)]; rfl)
      · dsimp only; omega
    · have g1 := h1
      try simp only [decide_eq_true_eq, decide_eq_false_iff_not, List.length_map, bne_iff_ne, bne_eq_false_iff_eq, beq_iff_eq, beq_eq_false_iff_ne, Bool.not_eq_true, Bool.not_eq_false, Bool.not_eq_true'] at g1
      refine a_exit ?_
      refine a_seq ?_
      refine a_run [2] tyOK (st1 := mk 23 [(2, .one (.so [] 7 0 (((xs).map ePair).length)))] [(7, [.sl 2 (fillP xs k)])]) (by kernel_rfl) ?_
      refine a_freezeAt (fun _ _ h => h) [] 7 0 2 [2] (n := (((xs).map ePair).length)) (rs := fillP xs k) (st1 := mk 23 [(2, .one (.c (.sl 2 (fillP xs k))))] []) (by kernel_rfl) (by rw [fillP_all (by omega)]) ?_
      refine a_ret ?_
      exact end_eq (res' := .one (.c (.sl 2 (fillP xs k)))) (by kernel_rfl) (by rw [toPairS, fillP_all (by omega)])

def lawDataOk (xs : List Pair) : Bool := true
theorem sz_bound {xs : List Pair} (hn : xs.length < 9223372036854775808) (h : ¬ szPairS xs 1048576 < 0) : xs.length < 4000000000000 := by
  rcases Nat.lt_or_ge xs.length 4000000000000 with h1 | h1
  · exact h1
  · exfalso
    apply h
    unfold szPairS
    rw [List.length_map, mv_wrap (by omega) (by omega), show decide ((1048576 : Int) - (xs.length : Int) < 0) = true from decide_eq_true (by omega)]
    show (-1 : Int) < 0
    omega

/-- laws.FnExactDataOk -/
theorem ok3 (xs : (List Pair)) (hn : xs.length < 9223372036854775808) : CallOK Try.prog 3 [.one (.c (.sl 2 ((xs).map ePair)))] (bV (lawDataOk xs)) [] :=
  callOK tyOK Try.func3 rfl fun w S hS => by
    refine a_seq ?_
    refine a_run [0] tyOK (st1 := mk 27 [(0, .one (.c (.sl 2 ((xs).map ePair))))] []) (by kernel_rfl) ?_
    refine a_seq ?_
    refine a_run [0, 3] tyOK (st1 := mk 27 [(0, .one (.c (.sl 2 ((xs).map ePair)))), (3, iV 1048576)] []) (by kernel_rfl) ?_
    refine a_seq ?_
    refine a_ops [0, 1, 2, 3] (by kernel_rfl) ?_
    refine ao_some [0, 1] [2, 3] [0, 7, 8] tyOK (st1 := mk 27 [(0, .one (.c (.sl 2 ((xs).map ePair)))), (7, .one (.c (.sl 2 ((xs).map ePair)))), (8, iV 1048576)] []) (by kernel_rfl) ?_
    refine ao_enter (f := 9) (d := 9) (A := [.one (.c (.sl 2 ((xs).map ePair))), iV 1048576]) (st1 := mk 27 [(0, .one (.c (.sl 2 ((xs).map ePair)))), (9, iV (szPairS xs 1048576))] []) [0, 9] (ok9 xs 1048576 (by first | omega | (show xs.length < _; omega))) Try.call9 (by kernel_rfl) (by kernel_rfl) (by kernel_rfl) ?_
    refine ao_some [3] [] [0, 3] tyOK (st1 := mk 27 [(0, .one (.c (.sl 2 ((xs).map ePair)))), (3, iV (szPairS xs 1048576))] []) (by kernel_rfl) ?_
    refine ao_nil ?_
    refine a_seq ?_
    refine a_seq ?_
    refine a_run [0, 11] tyOK (st1 := mk 27 [(0, .one (.c (.sl 2 ((xs).map ePair)))), (11, bV (decide ((szPairS xs 1048576) < 0)))] []) (by kernel_rfl) ?_
    refine a_cond (b := decide ((szPairS xs 1048576) < 0)) (by kernel_rfl) (fun h1 => ?_) (fun h1 => ?_)
    · have g1 := h1
      try simp only [decide_eq_true_eq, decide_eq_false_iff_not, List.length_map, bne_iff_ne, bne_eq_false_iff_eq, beq_iff_eq, beq_eq_false_iff_ne, Bool.not_eq_true, Bool.not_eq_false, Bool.not_eq_true'] at g1
      refine a_seq ?_
      refine a_run [2] tyOK (st1 := mk 27 [(2, bV true)] []) (by kernel_rfl) ?_
      refine a_ret ?_
      have e : lawDataOk xs = true := by
          rfl
      exact end_eq (res' := bV true) (by kernel_rfl) (by rw [e])
    · have g1 := h1
      try simp only [decide_eq_true_eq, decide_eq_false_iff_not, List.length_map, bne_iff_ne, bne_eq_false_iff_eq, beq_iff_eq, beq_eq_false_iff_ne, Bool.not_eq_true, Bool.not_eq_false, Bool.not_eq_true'] at g1
      have hb := sz_bound hn g1
      refine a_skip ?_
      refine a_seq ?_
      refine a_ops [0, 1, 2, 3] (by kernel_rfl) ?_
      refine ao_some [0] [1, 2, 3] [0, 12] tyOK (st1 := mk 27 [(0, .one (.c (.sl 2 ((xs).map ePair)))), (12, .one (.c (.sl 2 ((xs).map ePair))))] []) (by kernel_rfl) ?_
      refine ao_enter (f := 11) (d := 13) (A := [.one (.c (.sl 2 ((xs).map ePair)))]) (st1 := mk 27 [(0, .one (.c (.sl 2 ((xs).map ePair)))), (13, .one (.c (.sl 2 ((toPairS xs).map ePair))))] []) [0, 13] (ok11 xs (by first | omega | (show xs.length < _; omega))) Try.call11 (by kernel_rfl) (by kernel_rfl) (by kernel_rfl) ?_
      refine ao_enter (f := 10) (d := 14) (A := [.one (.c (.sl 2 ((toPairS xs).map ePair)))]) (st1 := mk 27 [(0, .one (.c (.sl 2 ((xs).map ePair)))), (14, bV (dataOk (toPairS xs)))] []) [0, 14] (ok10 (toPairS xs) (by first | omega | (show xs.length < _; omega))) Try.call10 (by kernel_rfl) (by kernel_rfl) (by kernel_rfl) ?_
      refine ao_some [3] [] [0, 4] tyOK (st1 := mk 27 [(0, .one (.c (.sl 2 ((xs).map ePair)))), (4, bV (dataOk (toPairS xs)))] []) (by kernel_rfl) ?_
      refine ao_nil ?_
      refine a_seq ?_
      refine a_ops [0, 1, 2] (by kernel_rfl) ?_
      refine ao_some [0] [1, 2] [0, 4, 15] tyOK (st1 := mk 27 [(0, .one (.c (.sl 2 ((xs).map ePair)))), (4, bV (dataOk (toPairS xs))), (15, .one (.c (.sl 2 ((xs).map ePair))))] []) (by kernel_rfl) ?_
      refine ao_enter (f := 11) (d := 16) (A := [.one (.c (.sl 2 ((xs).map ePair)))]) (st1 := mk 27 [(0, .one (.c (.sl 2 ((xs).map ePair)))), (4, bV (dataOk (toPairS xs))), (16, .one (.c (.sl 2 ((toPairS xs).map ePair))))] []) [0, 4, 16] (ok11 xs (by first | omega | (show xs.length < _; omega))) Try.call11 (by kernel_rfl) (by kernel_rfl) (by kernel_rfl) ?_
      refine ao_some [2] [] [0, 4, 5] tyOK (st1 := mk 27 [(0, .one (.c (.sl 2 ((xs).map ePair)))), (4, bV (dataOk (toPairS xs))), (5, .one (.c (.sl 2 ((toPairS xs).map ePair))))] []) (by kernel_rfl) ?_
      refine ao_nil ?_
      refine a_seq ?_
      refine a_ops [0, 1, 2] (by kernel_rfl) ?_
      refine ao_some [0] [1, 2] [0, 4, 5, 17] tyOK (st1 := mk 27 [(0, .one (.c (.sl 2 ((xs).map ePair)))), (4, bV (dataOk (toPairS xs))), (5, .one (.c (.sl 2 ((toPairS xs).map ePair)))), (17, .one (.c (.sl 2 ((toPairS xs).map ePair))))] []) (by kernel_rfl) ?_
      refine ao_enter (f := 12) (d := 18) (A := [.one (.c (.sl 2 ((toPairS xs).map ePair)))]) (st1 := mk 27 [(0, .one (.c (.sl 2 ((xs).map ePair)))), (4, bV (dataOk (toPairS xs))), (5, .one (.c (.sl 2 ((toPairS xs).map ePair)))), (18, bV (dataOk (toPairS xs)))] []) [0, 4, 5, 18] (ok12 (toPairS xs) (by first | omega | (show xs.length < _; omega))) Try.call12 (by kernel_rfl) (by kernel_rfl) (by kernel_rfl) ?_
      refine ao_some [2] [] [0, 4, 5, 6] tyOK (st1 := mk 27 [(0, .one (.c (.sl 2 ((xs).map ePair)))), (4, bV (dataOk (toPairS xs))), (5, .one (.c (.sl 2 ((toPairS xs).map ePair)))), (6, bV (dataOk (toPairS xs)))] []) (by kernel_rfl) ?_
      refine ao_nil ?_
      refine a_seq ?_
      refine a_seq ?_
      refine a_run [0, 5, 21] tyOK (st1 := mk 27 [(0, .one (.c (.sl 2 ((xs).map ePair)))), (5, .one (.c (.sl 2 ((toPairS xs).map ePair)))), (21, bV (!((dataOk (toPairS xs)) == (dataOk (toPairS xs)))))] []) (by kernel_rfl) ?_
      refine a_cond (b := !((dataOk (toPairS xs)) == (dataOk (toPairS xs)))) (by kernel_rfl) (fun h2 => ?_) (fun h2 => ?_)
      · have g2 := h2
        try simp only [decide_eq_true_eq, decide_eq_false_iff_not, List.length_map, bne_iff_ne, bne_eq_false_iff_eq, beq_iff_eq, beq_eq_false_iff_ne, Bool.not_eq_true, Bool.not_eq_false, Bool.not_eq_true'] at g2
        refine a_seq ?_
        refine a_run [2] tyOK (st1 := mk 27 [(2, bV false)] []) (by kernel_rfl) ?_
        refine a_ret ?_
        have e : lawDataOk xs = false := by
            simp at h2
        exact end_eq (res' := bV false) (by kernel_rfl) (by rw [e])
      · have g2 := h2
        try simp only [decide_eq_true_eq, decide_eq_false_iff_not, List.length_map, bne_iff_ne, bne_eq_false_iff_eq, beq_iff_eq, beq_eq_false_iff_ne, Bool.not_eq_true, Bool.not_eq_false, Bool.not_eq_true'] at g2
        refine a_skip ?_
        refine a_seq ?_
        refine a_seq ?_
        refine a_ops [0, 1, 2, 3, 4] (by kernel_rfl) ?_
        refine ao_some [0, 1] [2, 3, 4] [22, 23] tyOK (st1 := mk 27 [(22, .one (.c (.sl 2 ((toPairS xs).map ePair)))), (23, .one (.c (.sl 2 ((xs).map ePair))))] []) (by kernel_rfl) ?_
        refine ao_enter (f := 11) (d := 24) (A := [.one (.c (.sl 2 ((xs).map ePair)))]) (st1 := mk 27 [(22, .one (.c (.sl 2 ((toPairS xs).map ePair)))), (24, .one (.c (.sl 2 ((toPairS xs).map ePair))))] []) [22, 24] (ok11 xs (by first | omega | (show xs.length < _; omega))) Try.call11 (by kernel_rfl) (by kernel_rfl) (by kernel_rfl) ?_
        refine ao_enter (f := 13) (d := 25) (A := [.one (.c (.sl 2 ((toPairS xs).map ePair))), .one (.c (.sl 2 ((toPairS xs).map ePair)))]) (st1 := mk 27 [(25, bV (eqPairS (toPairS xs) (toPairS xs)))] []) [25] (ok13 (toPairS xs) (toPairS xs) (by first | omega | (show xs.length < _; omega))) Try.call13 (by kernel_rfl) (by kernel_rfl) (by kernel_rfl) ?_
        refine ao_some [4] [] [26] tyOK (st1 := mk 27 [(26, bV (!(eqPairS (toPairS xs) (toPairS xs))))] []) (by kernel_rfl) ?_
        refine ao_nil ?_
        refine a_cond (b := !(eqPairS (toPairS xs) (toPairS xs))) (by kernel_rfl) (fun h3 => ?_) (fun h3 => ?_)
        · have g3 := h3
          try simp only [decide_eq_true_eq, decide_eq_false_iff_not, List.length_map, bne_iff_ne, bne_eq_false_iff_eq, beq_iff_eq, beq_eq_false_iff_ne, Bool.not_eq_true, Bool.not_eq_false, Bool.not_eq_true'] at g3
          refine a_seq ?_
          refine a_run [2] tyOK (st1 := mk 27 [(2, bV false)] []) (by kernel_rfl) ?_
          refine a_ret ?_
          have e : lawDataOk xs = false := by
              simp [eqPairS, toPairS, eqL_self] at h3
          exact end_eq (res' := bV false) (by kernel_rfl) (by rw [e])
        · have g3 := h3
          try simp only [decide_eq_true_eq, decide_eq_false_iff_not, List.length_map, bne_iff_ne, bne_eq_false_iff_eq, beq_iff_eq, beq_eq_false_iff_ne, Bool.not_eq_true, Bool.not_eq_false, Bool.not_eq_true'] at g3
          refine a_skip ?_
          refine a_seq ?_
          refine a_run [2] tyOK (st1 := mk 27 [(2, bV true)] []) (by kernel_rfl) ?_
          refine a_ret ?_
          have e : lawDataOk xs = true := by
              rfl
          exact end_eq (res' := bV true) (by kernel_rfl) (by rw [e])

end Go.Proofs.Ytijmnochaamllaa
namespace Go.Proofs.Ytijmnochaamllaa.Row1
open Go.ChangeShapes Go.WideShapes Go.ChangeAt Go.RowKit Go.Mv
theorem own : ownKnob Try.prog.godebug = none := by kernel_rfl
theorem laidOut : laidOutB Try.prog = true := by kernel_rfl
set_option maxRecDepth 100000 in
theorem opens83 : Opens Try.prog 83 ePair (fun _ => True) :=
  opens_struct Try.underlying83 (fun H enc W fuel cs h1 h2 => by
    obtain ⟨y, k1, k2⟩ := opensF_cons (P := Try.prog) (off := 0) (fs := [(1, 9)]) (opens_string Try.underlying9) (by kernel_rfl : Try.prog.cellsOf 9 = 1) (opensF_cons (fs := []) (opens_string Try.underlying9) (by kernel_rfl : Try.prog.cellsOf 9 = 1) opensF_nil) H enc W fuel cs h1 h2
    exact ⟨⟨y.1, y.2.1⟩, by simpa [ePair] using k1, trivial⟩) (by kernel_rfl)
set_option maxRecDepth 100000 in
theorem opens22 : Opens Try.prog 22 (fun xs : List Pair => [.sl 2 (xs.map ePair)]) (fun xs => xs.length ≤ maxLen ∧ ∀ x ∈ xs, True) :=
  opens_slice Try.underlying22 (by kernel_rfl) (by decide) opens83
set_option maxRecDepth 100000 in
theorem lifted (os : Os) (started : os.Started) (H : Type) (enc : TypeId × Value → H) :
    ReturnsInHanded {} Try.checked os 3 .any (Rows.fnExactDataOkSpec.pre6 enc Try.prog Try.f3 Rows.fnExactDataOkRow.domain false) (Rows.fnExactDataOkSpec.post enc Try.prog Try.f3 false true false false) := by
  refine returnsInHanded_of_change_sized (C := Try.checked) own started (by kernel_rfl) Try.func3
    (ChangeSpec.witness6 (enc := enc) (C := Try.checked) false ⟨#[], #[.slice none 0 0], []⟩ 8 (by kernel_rfl) (by kernel_rfl) (by kernel_rfl) (by kernel_rfl)) ?_
  intro W base args ds gs before hval0 hW hcnd hsz0 _
  have hval : ∀ (j : Nat) t v, Try.f3.params[j]? = some t → args[j]? = some v → Value.okWide Try.prog W .any base t v := hval0
  have hW' := hW
  obtain ⟨p, q, hA0, hV, rfl, hfz, hnd⟩ := hW
  have hA : DataW.TrodAll enc Try.prog W 0 (fun _ => true) true Try.f3.params.toList args.toList ds p := hA0
  rw [Try.params3] at hA hval
  obtain ⟨v0, vs0, d0, ds0, p0, q0, hargs, rfl, rfl, h0, r0⟩ := trodAll_cons hA
  obtain ⟨rfl, rfl, rfl⟩ := trodAll_nil r0
  obtain rfl : args = #[v0] := by cases args; simp_all
  obtain ⟨rfl, rfl⟩ := trodVars_none hV
  obtain ⟨a0, len0, cap0, rfl⟩ := okWide_slice Try.underlying22 (hval 0 22 v0 rfl rfl)
  have k0 := h0
  have lt0 : ∀ x ∈ p0, x.block < W.heap.size := by obtain ⟨m, hm⟩ := k0; exact DataW.trod_lt m _ _ _ hm
  obtain ⟨fuel, hf⟩ := h0
  obtain ⟨y0, z0, o0, _⟩ := opens22 H enc W fuel _ _ hf
  clear hA0 hval0 hsz0
  have hv0 : TVVal W (fun b => b < W.heap.size) (fun _ => none) (.one (.c (.sl 2 (y0.map ePair)))) (.slice a0 len0 cap0) := by
    cases z0 with
    | cons h _ => exact h
  refine (ok3 y0 (by simp only [maxLen] at o0; omega) W (fun b => b < W.heap.size) [.slice a0 len0 cap0] (fun b hb => hb) (.cons hv0 .nil)).mono fun e W' ⟨v, he, ret⟩ => ?_
  subst he
  obtain ⟨bel, _, _, _, _, _, _, hv, _⟩ := ret
  have hv := one_v hv
  subst hv
  exact ⟨_, rfl, _, _, _, [], _, [], hW', trodAll_mk1 (shut_bool Try.underlying4 _), (trodAll_cons_mk (Below.trod laidOut (by kernel_rfl) (of_decide_eq_true (by kernel_rfl)) k0 bel lt0) trodAll_mk0), rfl, bel.frame _, fun h => by cases h⟩
theorem over : Rows.fnExactDataOkRow.holds Try.pinned (OpenSpec.ofChange Rows.fnExactDataOkSpec) :=
  OpenClaim.holds_of_wide 3 Try.f3 rfl rfl rfl rfl rfl rfl rfl ⟨rfl, rfl, rfl, rfl, rfl⟩ rfl rfl rfl rfl rfl (by kernel_rfl) Try.func3 (by kernel_rfl)
    (of_decide_eq_true (by kernel_rfl)) (by unfold Func.isWrapper; first | (rw [if_pos (by decide +kernel)]; kernel_rfl) | (rw [if_neg (by decide +kernel)]; exact ⟨rfl, rfl⟩))
    (fun os started H enc _ => lifted os started H enc)
theorem proved : Rows.FnExactDataOkSaid := over
end Go.Proofs.Ytijmnochaamllaa.Row1
