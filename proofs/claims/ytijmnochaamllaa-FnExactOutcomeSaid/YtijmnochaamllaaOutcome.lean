/- The given program's Outcome returns what the reference's Outcome returns, for every list of replies and every transaction (the statement FnExactOutcomeSaid); no condition beside the statement's own. -/
import Derived.Test.YtijmnochaamllaaProg
import Derived.Test.YtijmnochaamllaaMvIII
import Derived.Test.YtijmnochaamllaaRows
import Derived.WalkKit
import Derived.ProofKit
import Derived.OpenShut
import Derived.ShutString
import Derived.ChangeOld
import Derived.Below
import Derived.SizedLaws
set_option linter.unusedVariables false
set_option linter.unusedSimpArgs false
namespace Go.Proofs.Ytijmnochaamllaa
open Go.Mv Go.RowKit
theorem eqOK36 : EqOK Try.prog 36 [.int .i64, .int .i64, .int .i64] := by
  refine ⟨Try.eqGuardType36, fun w xs ys b h => ?_⟩
  obtain ⟨x1, xs1, y1, ys1, u1, v1, rfl, rfl, h1, k1, rfl⟩ := eqVs_cons h
  obtain ⟨x2, xs2, y2, ys2, u2, v2, rfl, rfl, h2, k2, rfl⟩ := eqVs_cons k1
  obtain ⟨x3, xs3, y3, ys3, u3, v3, rfl, rfl, h3, k3, rfl⟩ := eqVs_cons k2
  obtain ⟨rfl, rfl, rfl⟩ := eqVs_nil k3
  obtain ⟨a1, b1, rfl, rfl, rfl⟩ := eqV_int h1
  obtain ⟨a2, b2, rfl, rfl, rfl⟩ := eqV_int h2
  obtain ⟨a3, b3, rfl, rfl, rfl⟩ := eqV_int h3
  simp only [Op.equal, Op.maxDepth]
  rw [run_equalIn_struct w _ 36 _ _ (by kernel_rfl) (by kernel_rfl), show (Try.prog.fieldsOf 36).toList = [⟨ "C", 3, 0, false, "", "", 0⟩, ⟨ "E", 3, 1, false, "", "", 8⟩, ⟨ "N", 3, 2, false, "", "", 16⟩] by kernel_rfl]
  by_cases c1 : a1 = b1 <;> by_cases c2 : a2 = b2 <;> by_cases c3 : a3 = b3 <;> simp [Op.eqFields, part, Try.isAgg3, run_equalIn_int w _ 3 _ _ _ _ Try.underlying3, c1, c2, c3]
noncomputable def tyL : List (Nat × TInfo) := [
  (3, { k := .int .i64, size := 1, bytes := 8, zero := .int .i64 0 }),
  (4, { k := .bool, size := 1, bytes := 1, zero := .bool false }),
  (9, { k := .string, size := 1, bytes := 16, zero := .string ⟨#[]⟩ }),
  (22, { k := .slice 83, size := 1, bytes := 24, zero := .slice none 0 0, szs := [2] }),
  (25, { k := .slice 84, size := 1, bytes := 24, zero := .slice none 0 0, szs := [2] }),
  (29, { k := .slice 45, size := 1, bytes := 24, zero := .slice none 0 0, szs := [13] }),
  (31, { k := .struct [(0, 3), (1, 3), (2, 3)], size := 3, bytes := 24, zero := .agg #[.int .i64 0, .int .i64 0, .int .i64 0] }),
  (34, { k := .slice 52, size := 1, bytes := 24, zero := .slice none 0 0, szs := [13] }),
  (36, { k := .struct [(0, 3), (1, 3), (2, 3)], size := 3, bytes := 24, zero := .agg #[.int .i64 0, .int .i64 0, .int .i64 0], eqs := some [.int .i64, .int .i64, .int .i64] }),
  (41, { k := .struct [(0, 9), (1, 9)], size := 2, bytes := 32, zero := .agg #[.string ⟨#[]⟩, .string ⟨#[]⟩] }),
  (43, { k := .struct [(0, 3), (1, 9), (2, 9), (3, 41), (5, 3), (6, 4)], size := 7, bytes := 88, zero := .agg #[.int .i64 0, .string ⟨#[]⟩, .string ⟨#[]⟩, .string ⟨#[]⟩, .string ⟨#[]⟩, .int .i64 0, .bool false] }),
  (45, { k := .struct [(0, 3), (1, 31), (4, 43), (11, 3), (12, 22)], size := 13, bytes := 152, zero := .agg #[.int .i64 0, .int .i64 0, .int .i64 0, .int .i64 0, .int .i64 0, .string ⟨#[]⟩, .string ⟨#[]⟩, .string ⟨#[]⟩, .string ⟨#[]⟩, .int .i64 0, .bool false, .int .i64 0, .slice none 0 0], szs := [0, 0, 0, 0, 0, 0, 0, 0, 0, 0, 0, 0, 2] }),
  (48, { k := .struct [(0, 9), (1, 9)], size := 2, bytes := 32, zero := .agg #[.string ⟨#[]⟩, .string ⟨#[]⟩] }),
  (50, { k := .struct [(0, 3), (1, 9), (2, 9), (3, 48), (5, 3), (6, 4)], size := 7, bytes := 88, zero := .agg #[.int .i64 0, .string ⟨#[]⟩, .string ⟨#[]⟩, .string ⟨#[]⟩, .string ⟨#[]⟩, .int .i64 0, .bool false] }),
  (52, { k := .struct [(0, 3), (1, 36), (4, 50), (11, 3), (12, 25)], size := 13, bytes := 152, zero := .agg #[.int .i64 0, .int .i64 0, .int .i64 0, .int .i64 0, .int .i64 0, .string ⟨#[]⟩, .string ⟨#[]⟩, .string ⟨#[]⟩, .string ⟨#[]⟩, .int .i64 0, .bool false, .int .i64 0, .slice none 0 0], szs := [0, 0, 0, 0, 0, 0, 0, 0, 0, 0, 0, 0, 2] }),
  (83, { k := .struct [(0, 9), (1, 9)], size := 2, bytes := 32, zero := .agg #[.string ⟨#[]⟩, .string ⟨#[]⟩] }),
  (84, { k := .struct [(0, 9), (1, 9)], size := 2, bytes := 32, zero := .agg #[.string ⟨#[]⟩, .string ⟨#[]⟩] })]
noncomputable abbrev Ty := tyOf tyL
theorem tyOK : TyOK Try.prog Ty := tyOf_ok (by
  simp only [tyL, List.forall_mem_cons]
  refine ⟨⟨Try.underlying3, ⟨Try.t3, by kernel_rfl, rfl, rfl, rfl⟩, nofun⟩, ?_⟩
  refine ⟨⟨Try.underlying4, ⟨Try.t4, by kernel_rfl, rfl, rfl, rfl⟩, nofun⟩, ?_⟩
  refine ⟨⟨Try.underlying9, ⟨Try.t9, by kernel_rfl, rfl, rfl, rfl⟩, nofun⟩, ?_⟩
  refine ⟨⟨Try.underlying22, ⟨Try.t22, by kernel_rfl, rfl, rfl, rfl⟩, nofun⟩, ?_⟩
  refine ⟨⟨Try.underlying25, ⟨Try.t25, by kernel_rfl, rfl, rfl, rfl⟩, nofun⟩, ?_⟩
  refine ⟨⟨Try.underlying29, ⟨Try.t29, by kernel_rfl, rfl, rfl, rfl⟩, nofun⟩, ?_⟩
  refine ⟨⟨⟨_, Try.underlying31, rfl⟩, ⟨Try.t31, by kernel_rfl, rfl, rfl, rfl⟩, nofun⟩, ?_⟩
  refine ⟨⟨Try.underlying34, ⟨Try.t34, by kernel_rfl, rfl, rfl, rfl⟩, nofun⟩, ?_⟩
  refine ⟨⟨⟨_, Try.underlying36, rfl⟩, ⟨Try.t36, by kernel_rfl, rfl, rfl, rfl⟩, fun ks h => by cases h; exact eqOK36⟩, ?_⟩
  refine ⟨⟨⟨_, Try.underlying41, rfl⟩, ⟨Try.t41, by kernel_rfl, rfl, rfl, rfl⟩, nofun⟩, ?_⟩
  refine ⟨⟨⟨_, Try.underlying43, rfl⟩, ⟨Try.t43, by kernel_rfl, rfl, rfl, rfl⟩, nofun⟩, ?_⟩
  refine ⟨⟨⟨_, Try.underlying45, rfl⟩, ⟨Try.t45, by kernel_rfl, rfl, rfl, rfl⟩, nofun⟩, ?_⟩
  refine ⟨⟨⟨_, Try.underlying48, rfl⟩, ⟨Try.t48, by kernel_rfl, rfl, rfl, rfl⟩, nofun⟩, ?_⟩
  refine ⟨⟨⟨_, Try.underlying50, rfl⟩, ⟨Try.t50, by kernel_rfl, rfl, rfl, rfl⟩, nofun⟩, ?_⟩
  refine ⟨⟨⟨_, Try.underlying52, rfl⟩, ⟨Try.t52, by kernel_rfl, rfl, rfl, rfl⟩, nofun⟩, ?_⟩
  refine ⟨⟨⟨_, Try.underlying83, rfl⟩, ⟨Try.t83, by kernel_rfl, rfl, rfl, rfl⟩, nofun⟩, ?_⟩
  refine ⟨⟨⟨_, Try.underlying84, rfl⟩, ⟨Try.t84, by kernel_rfl, rfl, rfl, rfl⟩, nofun⟩, ?_⟩
  exact nofun)
def eStr (s : ByteArray) : List C := [sC s]
def eInt (n : Int) : List C := [iC n]
structure Pair where
  k : ByteArray
  v : ByteArray
instance : Inhabited Pair := ⟨⟨⟨#[]⟩, ⟨#[]⟩⟩⟩
def ePair (x : Pair) : List C := [sC x.k, sC x.v]
structure Range where
  lo : ByteArray
  hi : ByteArray
instance : Inhabited Range := ⟨⟨⟨#[]⟩, ⟨#[]⟩⟩⟩
def eRange (x : Range) : List C := [sC x.lo, sC x.hi]
structure Tx where
  c : Int
  e : Int
  n : Int
instance : Inhabited Tx := ⟨⟨0, 0, 0⟩⟩
def eTx (x : Tx) : List C := [iC x.c, iC x.e, iC x.n]
structure Ask where
  kind : Int
  key : ByteArray
  val : ByteArray
  range : Range
  most : Int
  back : Bool
instance : Inhabited Ask := ⟨⟨0, ⟨#[]⟩, ⟨#[]⟩, default, 0, false⟩⟩
def eAsk (x : Ask) : List C := [iC x.kind, sC x.key, sC x.val, sC x.range.lo, sC x.range.hi, iC x.most, bC x.back]
structure Reply where
  kind : Int
  tx : Tx
  ask : Ask
  code : Int
  pairs : List Pair
instance : Inhabited Reply := ⟨⟨0, default, default, 0, []⟩⟩
def eReply (x : Reply) : List C := [iC x.kind, iC x.tx.c, iC x.tx.e, iC x.tx.n, iC x.ask.kind, sC x.ask.key, sC x.ask.val, sC x.ask.range.lo, sC x.ask.range.hi, iC x.ask.most, bC x.ask.back, iC x.code, .sl 2 ((x.pairs).map ePair)]



def szPair (p : Pair) (l : Int) : Int := bif (decide ((IntKind.wrap .i64 (l - ((p.k.size : Int)))) < 0)) then (-1) else (bif (decide ((IntKind.wrap .i64 ((IntKind.wrap .i64 (l - ((p.k.size : Int)))) - ((p.v.size : Int)))) < 0)) then (-1) else (IntKind.wrap .i64 ((IntKind.wrap .i64 (l - ((p.k.size : Int)))) - ((p.v.size : Int)))))
/-- laws.szPair -/
theorem ok42 (p : Pair) (l : Int) : CallOK Try.prog 42 [.agg [.c (sC p.k), .c (sC p.v)], iV l] (iV (szPair p l)) [] :=
  callOK tyOK Try.func42 rfl fun w S hS => by
    refine a_seq ?_
    refine a_run [1, 2] tyOK (st1 := mk 20 [(1, iV l), (2, .one (.pl [(2, 0)] 0 0))] [(2, [.bx [sC p.k, sC p.v]])]) (by kernel_rfl) ?_
    refine a_seq ?_
    refine a_run [1, 2] tyOK (st1 := mk 20 [(1, iV (IntKind.wrap .i64 (l - ((p.k.size : Int))))), (2, .one (.pl [(2, 0)] 0 0))] [(2, [.bx [sC p.k, sC p.v]])]) (by kernel_rfl) ?_
    refine a_seq ?_
    refine a_seq ?_
    refine a_run [1, 2, 11] tyOK (st1 := mk 20 [(1, iV (IntKind.wrap .i64 (l - ((p.k.size : Int))))), (2, .one (.pl [(2, 0)] 0 0)), (11, bV (decide ((IntKind.wrap .i64 (l - ((p.k.size : Int)))) < 0)))] [(2, [.bx [sC p.k, sC p.v]])]) (by kernel_rfl) ?_
    refine a_cond (b := decide ((IntKind.wrap .i64 (l - ((p.k.size : Int)))) < 0)) (by kernel_rfl) (fun h1 => ?_) (fun h1 => ?_)
    · have g1 := h1
      try simp only [decide_eq_true_eq, decide_eq_false_iff_not, List.length_map, bne_iff_ne, bne_eq_false_iff_eq, beq_iff_eq, beq_eq_false_iff_ne, Bool.not_eq_true, Bool.not_eq_false, Bool.not_eq_true'] at g1
      refine a_seq ?_
      refine a_run [4] tyOK (st1 := mk 20 [(4, iV (-1))] []) (by kernel_rfl) ?_
      refine a_ret ?_
      have e : szPair p l = -1 := by rw [szPair]; rw [h1, cond_true]
      exact end_eq (res' := iV (-1)) (by kernel_rfl) (by rw [e])
    · have g1 := h1
      try simp only [decide_eq_true_eq, decide_eq_false_iff_not, List.length_map, bne_iff_ne, bne_eq_false_iff_eq, beq_iff_eq, beq_eq_false_iff_ne, Bool.not_eq_true, Bool.not_eq_false, Bool.not_eq_true'] at g1
      refine a_skip ?_
      refine a_seq ?_
      refine a_run [1] tyOK (st1 := mk 20 [(1, iV (IntKind.wrap .i64 ((IntKind.wrap .i64 (l - ((p.k.size : Int)))) - ((p.v.size : Int)))))] []) (by kernel_rfl) ?_
      refine a_seq ?_
      refine a_seq ?_
      refine a_run [1, 18] tyOK (st1 := mk 20 [(1, iV (IntKind.wrap .i64 ((IntKind.wrap .i64 (l - ((p.k.size : Int)))) - ((p.v.size : Int))))), (18, bV (decide ((IntKind.wrap .i64 ((IntKind.wrap .i64 (l - ((p.k.size : Int)))) - ((p.v.size : Int)))) < 0)))] []) (by kernel_rfl) ?_
      refine a_cond (b := decide ((IntKind.wrap .i64 ((IntKind.wrap .i64 (l - ((p.k.size : Int)))) - ((p.v.size : Int)))) < 0)) (by kernel_rfl) (fun h2 => ?_) (fun h2 => ?_)
      · have g2 := h2
        try simp only [decide_eq_true_eq, decide_eq_false_iff_not, List.length_map, bne_iff_ne, bne_eq_false_iff_eq, beq_iff_eq, beq_eq_false_iff_ne, Bool.not_eq_true, Bool.not_eq_false, Bool.not_eq_true'] at g2
        refine a_seq ?_
        refine a_run [4] tyOK (st1 := mk 20 [(4, iV (-1))] []) (by kernel_rfl) ?_
        refine a_ret ?_
        have e : szPair p l = -1 := by rw [szPair]; rw [h1, cond_false, h2, cond_true]
        exact end_eq (res' := iV (-1)) (by kernel_rfl) (by rw [e])
      · have g2 := h2
        try simp only [decide_eq_true_eq, decide_eq_false_iff_not, List.length_map, bne_iff_ne, bne_eq_false_iff_eq, beq_iff_eq, beq_eq_false_iff_ne, Bool.not_eq_true, Bool.not_eq_false, Bool.not_eq_true'] at g2
        refine a_skip ?_
        refine a_seq ?_
        refine a_run [4] tyOK (st1 := mk 20 [(4, iV (IntKind.wrap .i64 ((IntKind.wrap .i64 (l - ((p.k.size : Int)))) - ((p.v.size : Int)))))] []) (by kernel_rfl) ?_
        refine a_ret ?_
        have e : szPair p l = IntKind.wrap .i64 ((IntKind.wrap .i64 (l - ((p.k.size : Int)))) - ((p.v.size : Int))) := by rw [szPair]; rw [h1, cond_false, h2, cond_false]
        exact end_eq (res' := iV (IntKind.wrap .i64 ((IntKind.wrap .i64 (l - ((p.k.size : Int)))) - ((p.v.size : Int))))) (by kernel_rfl) (by rw [e])


def szRange (p : Range) (l : Int) : Int := bif (decide ((IntKind.wrap .i64 (l - ((p.lo.size : Int)))) < 0)) then (-1) else (bif (decide ((IntKind.wrap .i64 ((IntKind.wrap .i64 (l - ((p.lo.size : Int)))) - ((p.hi.size : Int)))) < 0)) then (-1) else (IntKind.wrap .i64 ((IntKind.wrap .i64 (l - ((p.lo.size : Int)))) - ((p.hi.size : Int)))))
/-- laws.szRange -/
theorem ok59 (p : Range) (l : Int) : CallOK Try.prog 59 [.agg [.c (sC p.lo), .c (sC p.hi)], iV l] (iV (szRange p l)) [] :=
  callOK tyOK Try.func59 rfl fun w S hS => by
    refine a_seq ?_
    refine a_run [1, 2] tyOK (st1 := mk 20 [(1, iV l), (2, .one (.pl [(2, 0)] 0 0))] [(2, [.bx [sC p.lo, sC p.hi]])]) (by kernel_rfl) ?_
    refine a_seq ?_
    refine a_run [1, 2] tyOK (st1 := mk 20 [(1, iV (IntKind.wrap .i64 (l - ((p.lo.size : Int))))), (2, .one (.pl [(2, 0)] 0 0))] [(2, [.bx [sC p.lo, sC p.hi]])]) (by kernel_rfl) ?_
    refine a_seq ?_
    refine a_seq ?_
    refine a_run [1, 2, 11] tyOK (st1 := mk 20 [(1, iV (IntKind.wrap .i64 (l - ((p.lo.size : Int))))), (2, .one (.pl [(2, 0)] 0 0)), (11, bV (decide ((IntKind.wrap .i64 (l - ((p.lo.size : Int)))) < 0)))] [(2, [.bx [sC p.lo, sC p.hi]])]) (by kernel_rfl) ?_
    refine a_cond (b := decide ((IntKind.wrap .i64 (l - ((p.lo.size : Int)))) < 0)) (by kernel_rfl) (fun h1 => ?_) (fun h1 => ?_)
    · have g1 := h1
      try simp only [decide_eq_true_eq, decide_eq_false_iff_not, List.length_map, bne_iff_ne, bne_eq_false_iff_eq, beq_iff_eq, beq_eq_false_iff_ne, Bool.not_eq_true, Bool.not_eq_false, Bool.not_eq_true'] at g1
      refine a_seq ?_
      refine a_run [4] tyOK (st1 := mk 20 [(4, iV (-1))] []) (by kernel_rfl) ?_
      refine a_ret ?_
      have e : szRange p l = -1 := by rw [szRange]; rw [h1, cond_true]
      exact end_eq (res' := iV (-1)) (by kernel_rfl) (by rw [e])
    · have g1 := h1
      try simp only [decide_eq_true_eq, decide_eq_false_iff_not, List.length_map, bne_iff_ne, bne_eq_false_iff_eq, beq_iff_eq, beq_eq_false_iff_ne, Bool.not_eq_true, Bool.not_eq_false, Bool.not_eq_true'] at g1
      refine a_skip ?_
      refine a_seq ?_
      refine a_run [1] tyOK (st1 := mk 20 [(1, iV (IntKind.wrap .i64 ((IntKind.wrap .i64 (l - ((p.lo.size : Int)))) - ((p.hi.size : Int)))))] []) (by kernel_rfl) ?_
      refine a_seq ?_
      refine a_seq ?_
      refine a_run [1, 18] tyOK (st1 := mk 20 [(1, iV (IntKind.wrap .i64 ((IntKind.wrap .i64 (l - ((p.lo.size : Int)))) - ((p.hi.size : Int))))), (18, bV (decide ((IntKind.wrap .i64 ((IntKind.wrap .i64 (l - ((p.lo.size : Int)))) - ((p.hi.size : Int)))) < 0)))] []) (by kernel_rfl) ?_
      refine a_cond (b := decide ((IntKind.wrap .i64 ((IntKind.wrap .i64 (l - ((p.lo.size : Int)))) - ((p.hi.size : Int)))) < 0)) (by kernel_rfl) (fun h2 => ?_) (fun h2 => ?_)
      · have g2 := h2
        try simp only [decide_eq_true_eq, decide_eq_false_iff_not, List.length_map, bne_iff_ne, bne_eq_false_iff_eq, beq_iff_eq, beq_eq_false_iff_ne, Bool.not_eq_true, Bool.not_eq_false, Bool.not_eq_true'] at g2
        refine a_seq ?_
        refine a_run [4] tyOK (st1 := mk 20 [(4, iV (-1))] []) (by kernel_rfl) ?_
        refine a_ret ?_
        have e : szRange p l = -1 := by rw [szRange]; rw [h1, cond_false, h2, cond_true]
        exact end_eq (res' := iV (-1)) (by kernel_rfl) (by rw [e])
      · have g2 := h2
        try simp only [decide_eq_true_eq, decide_eq_false_iff_not, List.length_map, bne_iff_ne, bne_eq_false_iff_eq, beq_iff_eq, beq_eq_false_iff_ne, Bool.not_eq_true, Bool.not_eq_false, Bool.not_eq_true'] at g2
        refine a_skip ?_
        refine a_seq ?_
        refine a_run [4] tyOK (st1 := mk 20 [(4, iV (IntKind.wrap .i64 ((IntKind.wrap .i64 (l - ((p.lo.size : Int)))) - ((p.hi.size : Int)))))] []) (by kernel_rfl) ?_
        refine a_ret ?_
        have e : szRange p l = IntKind.wrap .i64 ((IntKind.wrap .i64 (l - ((p.lo.size : Int)))) - ((p.hi.size : Int))) := by rw [szRange]; rw [h1, cond_false, h2, cond_false]
        exact end_eq (res' := iV (IntKind.wrap .i64 ((IntKind.wrap .i64 (l - ((p.lo.size : Int)))) - ((p.hi.size : Int))))) (by kernel_rfl) (by rw [e])


def szAsk (p : Ask) (l : Int) : Int := bif (decide ((IntKind.wrap .i64 (l - ((p.key.size : Int)))) < 0)) then (-1) else (bif (decide ((IntKind.wrap .i64 ((IntKind.wrap .i64 (l - ((p.key.size : Int)))) - ((p.val.size : Int)))) < 0)) then (-1) else (bif (decide ((szRange p.range (IntKind.wrap .i64 ((IntKind.wrap .i64 (l - ((p.key.size : Int)))) - ((p.val.size : Int))))) < 0)) then (-1) else (szRange p.range (IntKind.wrap .i64 ((IntKind.wrap .i64 (l - ((p.key.size : Int)))) - ((p.val.size : Int)))))))
/-- laws.szAsk -/
theorem ok36 (p : Ask) (l : Int) : CallOK Try.prog 36 [.agg [.c (iC p.kind), .c (sC p.key), .c (sC p.val), .c (sC p.range.lo), .c (sC p.range.hi), .c (iC p.most), .c (bC p.back)], iV l] (iV (szAsk p l)) [] :=
  callOK tyOK Try.func36 rfl fun w S hS => by
    refine a_seq ?_
    refine a_run [1, 2] tyOK (st1 := mk 26 [(1, iV l), (2, .one (.pl [(2, 0)] 0 0))] [(2, [.bx [iC p.kind, sC p.key, sC p.val, sC p.range.lo, sC p.range.hi, iC p.most, bC p.back]])]) (by kernel_rfl) ?_
    refine a_seq ?_
    refine a_run [1, 2] tyOK (st1 := mk 26 [(1, iV (IntKind.wrap .i64 (l - ((p.key.size : Int))))), (2, .one (.pl [(2, 0)] 0 0))] [(2, [.bx [iC p.kind, sC p.key, sC p.val, sC p.range.lo, sC p.range.hi, iC p.most, bC p.back]])]) (by kernel_rfl) ?_
    refine a_seq ?_
    refine a_seq ?_
    refine a_run [1, 2, 11] tyOK (st1 := mk 26 [(1, iV (IntKind.wrap .i64 (l - ((p.key.size : Int))))), (2, .one (.pl [(2, 0)] 0 0)), (11, bV (decide ((IntKind.wrap .i64 (l - ((p.key.size : Int)))) < 0)))] [(2, [.bx [iC p.kind, sC p.key, sC p.val, sC p.range.lo, sC p.range.hi, iC p.most, bC p.back]])]) (by kernel_rfl) ?_
    refine a_cond (b := decide ((IntKind.wrap .i64 (l - ((p.key.size : Int)))) < 0)) (by kernel_rfl) (fun h1 => ?_) (fun h1 => ?_)
    · have g1 := h1
      try simp only [decide_eq_true_eq, decide_eq_false_iff_not, List.length_map, bne_iff_ne, bne_eq_false_iff_eq, beq_iff_eq, beq_eq_false_iff_ne, Bool.not_eq_true, Bool.not_eq_false, Bool.not_eq_true'] at g1
      refine a_seq ?_
      refine a_run [4] tyOK (st1 := mk 26 [(4, iV (-1))] []) (by kernel_rfl) ?_
      refine a_ret ?_
      have e : szAsk p l = -1 := by rw [szAsk]; rw [h1, cond_true]
      exact end_eq (res' := iV (-1)) (by kernel_rfl) (by rw [e])
    · have g1 := h1
      try simp only [decide_eq_true_eq, decide_eq_false_iff_not, List.length_map, bne_iff_ne, bne_eq_false_iff_eq, beq_iff_eq, beq_eq_false_iff_ne, Bool.not_eq_true, Bool.not_eq_false, Bool.not_eq_true'] at g1
      refine a_skip ?_
      refine a_seq ?_
      refine a_run [1, 2] tyOK (st1 := mk 26 [(1, iV (IntKind.wrap .i64 ((IntKind.wrap .i64 (l - ((p.key.size : Int)))) - ((p.val.size : Int))))), (2, .one (.pl [(2, 0)] 0 0))] [(2, [.bx [iC p.kind, sC p.key, sC p.val, sC p.range.lo, sC p.range.hi, iC p.most, bC p.back]])]) (by kernel_rfl) ?_
      refine a_seq ?_
      refine a_seq ?_
      refine a_run [1, 2, 18] tyOK (st1 := mk 26 [(1, iV (IntKind.wrap .i64 ((IntKind.wrap .i64 (l - ((p.key.size : Int)))) - ((p.val.size : Int))))), (2, .one (.pl [(2, 0)] 0 0)), (18, bV (decide ((IntKind.wrap .i64 ((IntKind.wrap .i64 (l - ((p.key.size : Int)))) - ((p.val.size : Int)))) < 0)))] [(2, [.bx [iC p.kind, sC p.key, sC p.val, sC p.range.lo, sC p.range.hi, iC p.most, bC p.back]])]) (by kernel_rfl) ?_
      refine a_cond (b := decide ((IntKind.wrap .i64 ((IntKind.wrap .i64 (l - ((p.key.size : Int)))) - ((p.val.size : Int)))) < 0)) (by kernel_rfl) (fun h2 => ?_) (fun h2 => ?_)
      · have g2 := h2
        try simp only [decide_eq_true_eq, decide_eq_false_iff_not, List.length_map, bne_iff_ne, bne_eq_false_iff_eq, beq_iff_eq, beq_eq_false_iff_ne, Bool.not_eq_true, Bool.not_eq_false, Bool.not_eq_true'] at g2
        refine a_seq ?_
        refine a_run [4] tyOK (st1 := mk 26 [(4, iV (-1))] []) (by kernel_rfl) ?_
        refine a_ret ?_
        have e : szAsk p l = -1 := by rw [szAsk]; rw [h1, cond_false, h2, cond_true]
        exact end_eq (res' := iV (-1)) (by kernel_rfl) (by rw [e])
      · have g2 := h2
        try simp only [decide_eq_true_eq, decide_eq_false_iff_not, List.length_map, bne_iff_ne, bne_eq_false_iff_eq, beq_iff_eq, beq_eq_false_iff_ne, Bool.not_eq_true, Bool.not_eq_false, Bool.not_eq_true'] at g2
        refine a_skip ?_
        refine a_seq ?_
        refine a_ops [0, 1, 2, 3, 4] (by kernel_rfl) ?_
        refine ao_some [0, 1, 2] [3, 4] [20, 21] tyOK (st1 := mk 26 [(20, .agg [.c (sC p.range.lo), .c (sC p.range.hi)]), (21, iV (IntKind.wrap .i64 ((IntKind.wrap .i64 (l - ((p.key.size : Int)))) - ((p.val.size : Int)))))] []) (by kernel_rfl) ?_
        refine ao_enter (f := 59) (d := 22) (A := [.agg [.c (sC p.range.lo), .c (sC p.range.hi)], iV (IntKind.wrap .i64 ((IntKind.wrap .i64 (l - ((p.key.size : Int)))) - ((p.val.size : Int))))]) (st1 := mk 26 [(22, iV (szRange p.range (IntKind.wrap .i64 ((IntKind.wrap .i64 (l - ((p.key.size : Int)))) - ((p.val.size : Int))))))] []) [22] (ok59 p.range (IntKind.wrap .i64 ((IntKind.wrap .i64 (l - ((p.key.size : Int)))) - ((p.val.size : Int))))) Try.call59 (by kernel_rfl) (by kernel_rfl) (by kernel_rfl) ?_
        refine ao_some [4] [] [1] tyOK (st1 := mk 26 [(1, iV (szRange p.range (IntKind.wrap .i64 ((IntKind.wrap .i64 (l - ((p.key.size : Int)))) - ((p.val.size : Int))))))] []) (by kernel_rfl) ?_
        refine ao_nil ?_
        refine a_seq ?_
        refine a_seq ?_
        refine a_run [1, 24] tyOK (st1 := mk 26 [(1, iV (szRange p.range (IntKind.wrap .i64 ((IntKind.wrap .i64 (l - ((p.key.size : Int)))) - ((p.val.size : Int)))))), (24, bV (decide ((szRange p.range (IntKind.wrap .i64 ((IntKind.wrap .i64 (l - ((p.key.size : Int)))) - ((p.val.size : Int))))) < 0)))] []) (by kernel_rfl) ?_
        refine a_cond (b := decide ((szRange p.range (IntKind.wrap .i64 ((IntKind.wrap .i64 (l - ((p.key.size : Int)))) - ((p.val.size : Int))))) < 0)) (by kernel_rfl) (fun h3 => ?_) (fun h3 => ?_)
        · have g3 := h3
          try simp only [decide_eq_true_eq, decide_eq_false_iff_not, List.length_map, bne_iff_ne, bne_eq_false_iff_eq, beq_iff_eq, beq_eq_false_iff_ne, Bool.not_eq_true, Bool.not_eq_false, Bool.not_eq_true'] at g3
          refine a_seq ?_
          refine a_run [4] tyOK (st1 := mk 26 [(4, iV (-1))] []) (by kernel_rfl) ?_
          refine a_ret ?_
          have e : szAsk p l = -1 := by rw [szAsk]; rw [h1, cond_false, h2, cond_false, h3, cond_true]
          exact end_eq (res' := iV (-1)) (by kernel_rfl) (by rw [e])
        · have g3 := h3
          try simp only [decide_eq_true_eq, decide_eq_false_iff_not, List.length_map, bne_iff_ne, bne_eq_false_iff_eq, beq_iff_eq, beq_eq_false_iff_ne, Bool.not_eq_true, Bool.not_eq_false, Bool.not_eq_true'] at g3
          refine a_skip ?_
          refine a_seq ?_
          refine a_run [4] tyOK (st1 := mk 26 [(4, iV (szRange p.range (IntKind.wrap .i64 ((IntKind.wrap .i64 (l - ((p.key.size : Int)))) - ((p.val.size : Int))))))] []) (by kernel_rfl) ?_
          refine a_ret ?_
          have e : szAsk p l = szRange p.range (IntKind.wrap .i64 ((IntKind.wrap .i64 (l - ((p.key.size : Int)))) - ((p.val.size : Int)))) := by rw [szAsk]; rw [h1, cond_false, h2, cond_false, h3, cond_false]
          exact end_eq (res' := iV (szRange p.range (IntKind.wrap .i64 ((IntKind.wrap .i64 (l - ((p.key.size : Int)))) - ((p.val.size : Int)))))) (by kernel_rfl) (by rw [e])


structure L9_1 (xs : (List Pair)) (l : Int) where
  k : Nat
  c : Int
  inv : k ≤ xs.length ∧ szL szPair (xs.drop k) c = szS ePair szPair xs l

/-- laws.szPairS -/
theorem ok9 (xs : (List Pair)) (l : Int) (hn : xs.length < 9223372036854775808) : CallOK Try.prog 9 [.one (.c (.sl 2 ((xs).map ePair))), iV l] (iV (szS ePair szPair xs l)) [] :=
  callOK tyOK Try.func9 rfl fun w S hS => by
    refine a_seq ?_
    refine a_run [0, 1] tyOK (st1 := mk 27 [(0, .one (.c (.sl 2 ((xs).map ePair)))), (1, iV l)] []) (by kernel_rfl) ?_
    refine a_seq ?_
    refine a_run [0, 1] tyOK (st1 := mk 27 [(0, .one (.c (.sl 2 ((xs).map ePair)))), (1, iV (IntKind.wrap .i64 (l - (((((xs).map ePair).length : Nat) : Int)))))] []) (by kernel_rfl) ?_
    refine a_seq ?_
    refine a_seq ?_
    refine a_run [0, 1, 11] tyOK (st1 := mk 27 [(0, .one (.c (.sl 2 ((xs).map ePair)))), (1, iV (IntKind.wrap .i64 (l - (((((xs).map ePair).length : Nat) : Int))))), (11, bV (decide ((IntKind.wrap .i64 (l - (((((xs).map ePair).length : Nat) : Int)))) < 0)))] []) (by kernel_rfl) ?_
    refine a_cond (b := decide ((IntKind.wrap .i64 (l - (((((xs).map ePair).length : Nat) : Int)))) < 0)) (by kernel_rfl) (fun h1 => ?_) (fun h1 => ?_)
    · have g1 := h1
      try simp only [decide_eq_true_eq, decide_eq_false_iff_not, List.length_map, bne_iff_ne, bne_eq_false_iff_eq, beq_iff_eq, beq_eq_false_iff_ne, Bool.not_eq_true, Bool.not_eq_false, Bool.not_eq_true'] at g1
      refine a_seq ?_
      refine a_run [4] tyOK (st1 := mk 27 [(4, iV (-1))] []) (by kernel_rfl) ?_
      refine a_ret ?_
      have e : szS ePair szPair xs l = -1 := by
          rw [szS, h1, cond_true]
      exact end_eq (res' := iV (-1)) (by kernel_rfl) (by rw [e])
    · have g1 := h1
      try simp only [decide_eq_true_eq, decide_eq_false_iff_not, List.length_map, bne_iff_ne, bne_eq_false_iff_eq, beq_iff_eq, beq_eq_false_iff_ne, Bool.not_eq_true, Bool.not_eq_false, Bool.not_eq_true'] at g1
      refine a_skip ?_
      refine a_seq ?_
      refine a_seq ?_
      refine a_run [0, 1, 5] tyOK (st1 := mk 27 [(0, .one (.c (.sl 2 ((xs).map ePair)))), (1, iV (IntKind.wrap .i64 (l - (((((xs).map ePair).length : Nat) : Int))))), (5, iV 0)] []) (by kernel_rfl) ?_
      refine a_block ?_
      refine a_keep [0, 1, 5] ?_
      refine a_loop (ι := L9_1 xs l) (fun ⟨k, c, _⟩ => mk 27 [(0, .one (.c (.sl 2 ((xs).map ePair)))), (1, iV c), (5, iV (((k : Nat) : Int)))] []) (fun ⟨k, c, _⟩ => xs.length - k) ⟨0, (IntKind.wrap .i64 (l - ((((xs).map ePair).length : Nat) : Int))), Nat.zero_le _, by rw [szS, h1, cond_false]; rfl⟩ (by kernel_rfl) ?_
      rintro ⟨k, c, hI⟩
      obtain ⟨hk, hR⟩ := hI
      show AWp _ _ _ _ (mk 27 [(0, .one (.c (.sl 2 ((xs).map ePair)))), (1, iV c), (5, iV (((k : Nat) : Int)))] [])
      refine a_seq ?_
      refine a_seq ?_
      refine a_run [0, 1, 5, 15] tyOK (st1 := mk 27 [(0, .one (.c (.sl 2 ((xs).map ePair)))), (1, iV c), (5, iV (((k : Nat) : Int))), (15, bV (decide ((((k : Nat) : Int)) < (((((xs).map ePair).length : Nat) : Int)))))] []) (by kernel_rfl) ?_
      refine a_cond (b := decide ((((k : Nat) : Int)) < (((((xs).map ePair).length : Nat) : Int)))) (by kernel_rfl) (fun h2 => ?_) (fun h2 => ?_)
      · have g2 := h2
        try simp only [decide_eq_true_eq, decide_eq_false_iff_not, List.length_map, bne_iff_ne, bne_eq_false_iff_eq, beq_iff_eq, beq_eq_false_iff_ne, Bool.not_eq_true, Bool.not_eq_false, Bool.not_eq_true'] at g2
        refine a_skip ?_
        refine a_seq ?_
        refine a_block ?_
        refine a_seq ?_
        refine a_ops [0, 1, 2, 3, 4, 5, 6] (by kernel_rfl) ?_
        refine ao_some [0, 1] [2, 3, 4, 5, 6] [0, 1, 5, 18, 19] tyOK (st1 := mk 27 [(0, .one (.c (.sl 2 ((xs).map ePair)))), (1, iV c), (5, iV (((k : Nat) : Int))), (18, .one (.c (.sl 2 ((xs).map ePair)))), (19, iV (((k : Nat) : Int)))] []) (by kernel_rfl) ?_
        have p1 : 0 ≤ (((k : Nat) : Int)) ∧ (((k : Nat) : Int)).toNat < (xs).length := by first | omega | (rw [mv_wrap (by omega) (by omega)]; omega)
        obtain ⟨x1, q1⟩ : ∃ x, (xs)[(((k : Nat) : Int)).toNat]? = some x := ⟨_, List.getElem?_eq_getElem p1.2⟩
        have r1 := q1
        try simp only [Int.toNat_natCast] at r1
        refine ao_index (d := 20) (size := 2) (n := ((k : Nat) : Int)) (rows := (xs).map ePair) (st1 := mk 27 [(0, .one (.c (.sl 2 ((xs).map ePair)))), (1, iV c), (5, iV (((k : Nat) : Int))), (20, .one (.fp [sC x1.k, sC x1.v] 0))] []) (ePair x1) [0, 1, 5, 20] tyOK (by kernel_rfl) p1.1 (by rw [List.getElem?_map, q1]; rfl) (by kernel_rfl) (by kernel_rfl) ?_
        refine ao_some [3, 4] [5, 6] [0, 5, 21, 22] tyOK (st1 := mk 27 [(0, .one (.c (.sl 2 ((xs).map ePair)))), (5, iV (((k : Nat) : Int))), (21, .agg [.c (sC x1.k), .c (sC x1.v)]), (22, iV c)] []) (by kernel_rfl) ?_
        refine ao_enter (f := 42) (d := 23) (A := [.agg [.c (sC x1.k), .c (sC x1.v)], iV c]) (st1 := mk 27 [(0, .one (.c (.sl 2 ((xs).map ePair)))), (5, iV (((k : Nat) : Int))), (23, iV (szPair x1 c))] []) [0, 5, 23] (ok42 x1 c) Try.call42 (by kernel_rfl) (by kernel_rfl) (by kernel_rfl) ?_
        refine ao_some [6] [] [0, 1, 5] tyOK (st1 := mk 27 [(0, .one (.c (.sl 2 ((xs).map ePair)))), (1, iV (szPair x1 c)), (5, iV (((k : Nat) : Int)))] []) (by kernel_rfl) ?_
        refine ao_nil ?_
        refine a_seq ?_
        refine a_run [0, 1, 5, 25] tyOK (st1 := mk 27 [(0, .one (.c (.sl 2 ((xs).map ePair)))), (1, iV (szPair x1 c)), (5, iV (((k : Nat) : Int))), (25, bV (decide ((szPair x1 c) < 0)))] []) (by kernel_rfl) ?_
        refine a_cond (b := decide ((szPair x1 c) < 0)) (by kernel_rfl) (fun h3 => ?_) (fun h3 => ?_)
        · have g3 := h3
          try simp only [decide_eq_true_eq, decide_eq_false_iff_not, List.length_map, bne_iff_ne, bne_eq_false_iff_eq, beq_iff_eq, beq_eq_false_iff_ne, Bool.not_eq_true, Bool.not_eq_false, Bool.not_eq_true'] at g3
          refine a_seq ?_
          refine a_run [4] tyOK (st1 := mk 27 [(4, iV (-1))] []) (by kernel_rfl) ?_
          refine a_ret ?_
          have e : szS ePair szPair xs l = -1 := by
              rw [← hR, drop_of_get r1, szL, if_pos g3]
          exact end_eq (res' := iV (-1)) (by kernel_rfl) (by rw [e])
        · have g3 := h3
          try simp only [decide_eq_true_eq, decide_eq_false_iff_not, List.length_map, bne_iff_ne, bne_eq_false_iff_eq, beq_iff_eq, beq_eq_false_iff_ne, Bool.not_eq_true, Bool.not_eq_false, Bool.not_eq_true'] at g3
          refine a_skip ?_
          refine a_run [0, 1, 5] tyOK (st1 := mk 27 [(0, .one (.c (.sl 2 ((xs).map ePair)))), (1, iV (szPair x1 c)), (5, iV (IntKind.wrap .i64 ((((k : Nat) : Int)) + 1)))] []) (by kernel_rfl) ?_
          refine ⟨⟨(k + 1), (szPair x1 c), ?_⟩, ?_, ?_⟩
          · exact ⟨by omega, by rw [← hR, drop_of_get r1, szL, if_neg (by omega)]⟩
          · exact (show _ = mk 27 [(0, .one (.c (.sl 2 ((xs).map ePair)))), (1, iV (szPair x1 c)), (5, iV (IntKind.wrap .i64 ((((k : Nat) : Int)) + 1)))] [] by kernel_rfl).trans (by rw [mv_wrap (by omega) (by omega)]; rfl)
          · dsimp only; omega
      · have g2 := h2
        try simp only [decide_eq_true_eq, decide_eq_false_iff_not, List.length_map, bne_iff_ne, bne_eq_false_iff_eq, beq_iff_eq, beq_eq_false_iff_ne, Bool.not_eq_true, Bool.not_eq_false, Bool.not_eq_true'] at g2
        refine a_exit ?_
        refine a_seq ?_
        refine a_run [4] tyOK (st1 := mk 27 [(4, iV c)] []) (by kernel_rfl) ?_
        refine a_ret ?_
        have e : szS ePair szPair xs l = c := by
            rw [← hR, List.drop_eq_nil_of_le (by omega), szL]
        exact end_eq (res' := iV c) (by kernel_rfl) (by rw [e])

def okReply (p : Reply) : Prop := p.pairs.length * 32 ≤ 140737488351232
def szReply (p : Reply) (l : Int) : Int := bif (decide ((szAsk p.ask l) < 0)) then (-1) else (bif (decide ((szS ePair szPair p.pairs (szAsk p.ask l)) < 0)) then (-1) else (szS ePair szPair p.pairs (szAsk p.ask l)))
/-- laws.szReply -/
theorem ok22 (p : Reply) (l : Int) (hp : okReply p) : CallOK Try.prog 22 [.agg [.c (iC p.kind), .c (iC p.tx.c), .c (iC p.tx.e), .c (iC p.tx.n), .c (iC p.ask.kind), .c (sC p.ask.key), .c (sC p.ask.val), .c (sC p.ask.range.lo), .c (sC p.ask.range.hi), .c (iC p.ask.most), .c (bC p.ask.back), .c (iC p.code), .c (.sl 2 ((p.pairs).map ePair))], iV l] (iV (szReply p l)) [] :=
  callOK tyOK Try.func22 rfl fun w S hS => by
    refine a_seq ?_
    refine a_run [1, 2] tyOK (st1 := mk 18 [(1, iV l), (2, .one (.pl [(2, 0)] 0 0))] [(2, [.bx [iC p.kind, iC p.tx.c, iC p.tx.e, iC p.tx.n, iC p.ask.kind, sC p.ask.key, sC p.ask.val, sC p.ask.range.lo, sC p.ask.range.hi, iC p.ask.most, bC p.ask.back, iC p.code, .fz (.sl 2 ((p.pairs).map ePair))]])]) (by kernel_rfl) ?_
    refine a_seq ?_
    refine a_ops [0, 1, 2, 3, 4] (by kernel_rfl) ?_
    refine ao_some [0, 1, 2] [3, 4] [2, 6, 7] tyOK (st1 := mk 18 [(2, .one (.pl [(2, 0)] 0 0)), (6, .agg [.c (iC p.ask.kind), .c (sC p.ask.key), .c (sC p.ask.val), .c (sC p.ask.range.lo), .c (sC p.ask.range.hi), .c (iC p.ask.most), .c (bC p.ask.back)]), (7, iV l)] [(2, [.bx [iC p.kind, iC p.tx.c, iC p.tx.e, iC p.tx.n, iC p.ask.kind, sC p.ask.key, sC p.ask.val, sC p.ask.range.lo, sC p.ask.range.hi, iC p.ask.most, bC p.ask.back, iC p.code, .fz (.sl 2 ((p.pairs).map ePair))]])]) (by kernel_rfl) ?_
    refine ao_enter (f := 36) (d := 8) (A := [.agg [.c (iC p.ask.kind), .c (sC p.ask.key), .c (sC p.ask.val), .c (sC p.ask.range.lo), .c (sC p.ask.range.hi), .c (iC p.ask.most), .c (bC p.ask.back)], iV l]) (st1 := mk 18 [(2, .one (.pl [(2, 0)] 0 0)), (8, iV (szAsk p.ask l))] [(2, [.bx [iC p.kind, iC p.tx.c, iC p.tx.e, iC p.tx.n, iC p.ask.kind, sC p.ask.key, sC p.ask.val, sC p.ask.range.lo, sC p.ask.range.hi, iC p.ask.most, bC p.ask.back, iC p.code, .fz (.sl 2 ((p.pairs).map ePair))]])]) [2, 8] (ok36 p.ask l) Try.call36 (by kernel_rfl) (by kernel_rfl) (by kernel_rfl) ?_
    refine ao_some [4] [] [1, 2] tyOK (st1 := mk 18 [(1, iV (szAsk p.ask l)), (2, .one (.pl [(2, 0)] 0 0))] [(2, [.bx [iC p.kind, iC p.tx.c, iC p.tx.e, iC p.tx.n, iC p.ask.kind, sC p.ask.key, sC p.ask.val, sC p.ask.range.lo, sC p.ask.range.hi, iC p.ask.most, bC p.ask.back, iC p.code, .fz (.sl 2 ((p.pairs).map ePair))]])]) (by kernel_rfl) ?_
    refine ao_nil ?_
    refine a_seq ?_
    refine a_seq ?_
    refine a_run [1, 2, 10] tyOK (st1 := mk 18 [(1, iV (szAsk p.ask l)), (2, .one (.pl [(2, 0)] 0 0)), (10, bV (decide ((szAsk p.ask l) < 0)))] [(2, [.bx [iC p.kind, iC p.tx.c, iC p.tx.e, iC p.tx.n, iC p.ask.kind, sC p.ask.key, sC p.ask.val, sC p.ask.range.lo, sC p.ask.range.hi, iC p.ask.most, bC p.ask.back, iC p.code, .fz (.sl 2 ((p.pairs).map ePair))]])]) (by kernel_rfl) ?_
    refine a_cond (b := decide ((szAsk p.ask l) < 0)) (by kernel_rfl) (fun h1 => ?_) (fun h1 => ?_)
    · have g1 := h1
      try simp only [decide_eq_true_eq, decide_eq_false_iff_not, List.length_map, bne_iff_ne, bne_eq_false_iff_eq, beq_iff_eq, beq_eq_false_iff_ne, Bool.not_eq_true, Bool.not_eq_false, Bool.not_eq_true'] at g1
      refine a_seq ?_
      refine a_run [4] tyOK (st1 := mk 18 [(4, iV (-1))] []) (by kernel_rfl) ?_
      refine a_ret ?_
      have e : szReply p l = -1 := by rw [szReply]; rw [h1, cond_true]
      exact end_eq (res' := iV (-1)) (by kernel_rfl) (by rw [e])
    · have g1 := h1
      try simp only [decide_eq_true_eq, decide_eq_false_iff_not, List.length_map, bne_iff_ne, bne_eq_false_iff_eq, beq_iff_eq, beq_eq_false_iff_ne, Bool.not_eq_true, Bool.not_eq_false, Bool.not_eq_true'] at g1
      refine a_skip ?_
      refine a_seq ?_
      refine a_ops [0, 1, 2, 3, 4] (by kernel_rfl) ?_
      refine ao_some [0, 1, 2] [3, 4] [12, 13] tyOK (st1 := mk 18 [(12, .one (.c (.sl 2 ((p.pairs).map ePair)))), (13, iV (szAsk p.ask l))] []) (by kernel_rfl) ?_
      refine ao_enter (f := 9) (d := 14) (A := [.one (.c (.sl 2 ((p.pairs).map ePair))), iV (szAsk p.ask l)]) (st1 := mk 18 [(14, iV (szS ePair szPair p.pairs (szAsk p.ask l)))] []) [14] (ok9 p.pairs (szAsk p.ask l) (by unfold okReply at hp; omega)) Try.call9 (by kernel_rfl) (by kernel_rfl) (by kernel_rfl) ?_
      refine ao_some [4] [] [1] tyOK (st1 := mk 18 [(1, iV (szS ePair szPair p.pairs (szAsk p.ask l)))] []) (by kernel_rfl) ?_
      refine ao_nil ?_
      refine a_seq ?_
      refine a_seq ?_
      refine a_run [1, 16] tyOK (st1 := mk 18 [(1, iV (szS ePair szPair p.pairs (szAsk p.ask l))), (16, bV (decide ((szS ePair szPair p.pairs (szAsk p.ask l)) < 0)))] []) (by kernel_rfl) ?_
      refine a_cond (b := decide ((szS ePair szPair p.pairs (szAsk p.ask l)) < 0)) (by kernel_rfl) (fun h2 => ?_) (fun h2 => ?_)
      · have g2 := h2
        try simp only [decide_eq_true_eq, decide_eq_false_iff_not, List.length_map, bne_iff_ne, bne_eq_false_iff_eq, beq_iff_eq, beq_eq_false_iff_ne, Bool.not_eq_true, Bool.not_eq_false, Bool.not_eq_true'] at g2
        refine a_seq ?_
        refine a_run [4] tyOK (st1 := mk 18 [(4, iV (-1))] []) (by kernel_rfl) ?_
        refine a_ret ?_
        have e : szReply p l = -1 := by rw [szReply]; rw [h1, cond_false, h2, cond_true]
        exact end_eq (res' := iV (-1)) (by kernel_rfl) (by rw [e])
      · have g2 := h2
        try simp only [decide_eq_true_eq, decide_eq_false_iff_not, List.length_map, bne_iff_ne, bne_eq_false_iff_eq, beq_iff_eq, beq_eq_false_iff_ne, Bool.not_eq_true, Bool.not_eq_false, Bool.not_eq_true'] at g2
        refine a_skip ?_
        refine a_seq ?_
        refine a_run [4] tyOK (st1 := mk 18 [(4, iV (szS ePair szPair p.pairs (szAsk p.ask l)))] []) (by kernel_rfl) ?_
        refine a_ret ?_
        have e : szReply p l = szS ePair szPair p.pairs (szAsk p.ask l) := by rw [szReply]; rw [h1, cond_false, h2, cond_false]
        exact end_eq (res' := iV (szS ePair szPair p.pairs (szAsk p.ask l))) (by kernel_rfl) (by rw [e])


structure L14_1 (xs : (List Reply)) (l : Int) where
  k : Nat
  c : Int
  inv : k ≤ xs.length ∧ szL szReply (xs.drop k) c = szS eReply szReply xs l

/-- laws.szReplyS -/
theorem ok14 (xs : (List Reply)) (l : Int) (hn : xs.length < 9223372036854775808) (hok : ∀ x ∈ xs, okReply x) : CallOK Try.prog 14 [.one (.c (.sl 13 ((xs).map eReply))), iV l] (iV (szS eReply szReply xs l)) [] :=
  callOK tyOK Try.func14 rfl fun w S hS => by
    refine a_seq ?_
    refine a_run [0, 1] tyOK (st1 := mk 27 [(0, .one (.c (.sl 13 ((xs).map eReply)))), (1, iV l)] []) (by kernel_rfl) ?_
    refine a_seq ?_
    refine a_run [0, 1] tyOK (st1 := mk 27 [(0, .one (.c (.sl 13 ((xs).map eReply)))), (1, iV (IntKind.wrap .i64 (l - (((((xs).map eReply).length : Nat) : Int)))))] []) (by kernel_rfl) ?_
    refine a_seq ?_
    refine a_seq ?_
    refine a_run [0, 1, 11] tyOK (st1 := mk 27 [(0, .one (.c (.sl 13 ((xs).map eReply)))), (1, iV (IntKind.wrap .i64 (l - (((((xs).map eReply).length : Nat) : Int))))), (11, bV (decide ((IntKind.wrap .i64 (l - (((((xs).map eReply).length : Nat) : Int)))) < 0)))] []) (by kernel_rfl) ?_
    refine a_cond (b := decide ((IntKind.wrap .i64 (l - (((((xs).map eReply).length : Nat) : Int)))) < 0)) (by kernel_rfl) (fun h1 => ?_) (fun h1 => ?_)
    · have g1 := h1
      try simp only [decide_eq_true_eq, decide_eq_false_iff_not, List.length_map, bne_iff_ne, bne_eq_false_iff_eq, beq_iff_eq, beq_eq_false_iff_ne, Bool.not_eq_true, Bool.not_eq_false, Bool.not_eq_true'] at g1
      refine a_seq ?_
      refine a_run [4] tyOK (st1 := mk 27 [(4, iV (-1))] []) (by kernel_rfl) ?_
      refine a_ret ?_
      have e : szS eReply szReply xs l = -1 := by
          rw [szS, h1, cond_true]
      exact end_eq (res' := iV (-1)) (by kernel_rfl) (by rw [e])
    · have g1 := h1
      try simp only [decide_eq_true_eq, decide_eq_false_iff_not, List.length_map, bne_iff_ne, bne_eq_false_iff_eq, beq_iff_eq, beq_eq_false_iff_ne, Bool.not_eq_true, Bool.not_eq_false, Bool.not_eq_true'] at g1
      refine a_skip ?_
      refine a_seq ?_
      refine a_seq ?_
      refine a_run [0, 1, 5] tyOK (st1 := mk 27 [(0, .one (.c (.sl 13 ((xs).map eReply)))), (1, iV (IntKind.wrap .i64 (l - (((((xs).map eReply).length : Nat) : Int))))), (5, iV 0)] []) (by kernel_rfl) ?_
      refine a_block ?_
      refine a_keep [0, 1, 5] ?_
      refine a_loop (ι := L14_1 xs l) (fun ⟨k, c, _⟩ => mk 27 [(0, .one (.c (.sl 13 ((xs).map eReply)))), (1, iV c), (5, iV (((k : Nat) : Int)))] []) (fun ⟨k, c, _⟩ => xs.length - k) ⟨0, (IntKind.wrap .i64 (l - ((((xs).map eReply).length : Nat) : Int))), Nat.zero_le _, by rw [szS, h1, cond_false]; rfl⟩ (by kernel_rfl) ?_
      rintro ⟨k, c, hI⟩
      obtain ⟨hk, hR⟩ := hI
      show AWp _ _ _ _ (mk 27 [(0, .one (.c (.sl 13 ((xs).map eReply)))), (1, iV c), (5, iV (((k : Nat) : Int)))] [])
      refine a_seq ?_
      refine a_seq ?_
      refine a_run [0, 1, 5, 15] tyOK (st1 := mk 27 [(0, .one (.c (.sl 13 ((xs).map eReply)))), (1, iV c), (5, iV (((k : Nat) : Int))), (15, bV (decide ((((k : Nat) : Int)) < (((((xs).map eReply).length : Nat) : Int)))))] []) (by kernel_rfl) ?_
      refine a_cond (b := decide ((((k : Nat) : Int)) < (((((xs).map eReply).length : Nat) : Int)))) (by kernel_rfl) (fun h2 => ?_) (fun h2 => ?_)
      · have g2 := h2
        try simp only [decide_eq_true_eq, decide_eq_false_iff_not, List.length_map, bne_iff_ne, bne_eq_false_iff_eq, beq_iff_eq, beq_eq_false_iff_ne, Bool.not_eq_true, Bool.not_eq_false, Bool.not_eq_true'] at g2
        refine a_skip ?_
        refine a_seq ?_
        refine a_block ?_
        refine a_seq ?_
        refine a_ops [0, 1, 2, 3, 4, 5, 6] (by kernel_rfl) ?_
        refine ao_some [0, 1] [2, 3, 4, 5, 6] [0, 1, 5, 18, 19] tyOK (st1 := mk 27 [(0, .one (.c (.sl 13 ((xs).map eReply)))), (1, iV c), (5, iV (((k : Nat) : Int))), (18, .one (.c (.sl 13 ((xs).map eReply)))), (19, iV (((k : Nat) : Int)))] []) (by kernel_rfl) ?_
        have p1 : 0 ≤ (((k : Nat) : Int)) ∧ (((k : Nat) : Int)).toNat < (xs).length := by first | omega | (rw [mv_wrap (by omega) (by omega)]; omega)
        obtain ⟨x1, q1⟩ : ∃ x, (xs)[(((k : Nat) : Int)).toNat]? = some x := ⟨_, List.getElem?_eq_getElem p1.2⟩
        have r1 := q1
        try simp only [Int.toNat_natCast] at r1
        refine ao_index (d := 20) (size := 13) (n := ((k : Nat) : Int)) (rows := (xs).map eReply) (st1 := mk 27 [(0, .one (.c (.sl 13 ((xs).map eReply)))), (1, iV c), (5, iV (((k : Nat) : Int))), (20, .one (.fp [iC x1.kind, iC x1.tx.c, iC x1.tx.e, iC x1.tx.n, iC x1.ask.kind, sC x1.ask.key, sC x1.ask.val, sC x1.ask.range.lo, sC x1.ask.range.hi, iC x1.ask.most, bC x1.ask.back, iC x1.code, .sl 2 ((x1.pairs).map ePair)] 0))] []) (eReply x1) [0, 1, 5, 20] tyOK (by kernel_rfl) p1.1 (by rw [List.getElem?_map, q1]; rfl) (by kernel_rfl) (by kernel_rfl) ?_
        refine ao_some [3, 4] [5, 6] [0, 5, 21, 22] tyOK (st1 := mk 27 [(0, .one (.c (.sl 13 ((xs).map eReply)))), (5, iV (((k : Nat) : Int))), (21, .agg [.c (iC x1.kind), .c (iC x1.tx.c), .c (iC x1.tx.e), .c (iC x1.tx.n), .c (iC x1.ask.kind), .c (sC x1.ask.key), .c (sC x1.ask.val), .c (sC x1.ask.range.lo), .c (sC x1.ask.range.hi), .c (iC x1.ask.most), .c (bC x1.ask.back), .c (iC x1.code), .c (.sl 2 ((x1.pairs).map ePair))]), (22, iV c)] []) (by kernel_rfl) ?_
        refine ao_enter (f := 22) (d := 23) (A := [.agg [.c (iC x1.kind), .c (iC x1.tx.c), .c (iC x1.tx.e), .c (iC x1.tx.n), .c (iC x1.ask.kind), .c (sC x1.ask.key), .c (sC x1.ask.val), .c (sC x1.ask.range.lo), .c (sC x1.ask.range.hi), .c (iC x1.ask.most), .c (bC x1.ask.back), .c (iC x1.code), .c (.sl 2 ((x1.pairs).map ePair))], iV c]) (st1 := mk 27 [(0, .one (.c (.sl 13 ((xs).map eReply)))), (5, iV (((k : Nat) : Int))), (23, iV (szReply x1 c))] []) [0, 5, 23] (ok22 x1 c (hok _ (List.mem_of_getElem? q1))) Try.call22 (by kernel_rfl) (by kernel_rfl) (by kernel_rfl) ?_
        refine ao_some [6] [] [0, 1, 5] tyOK (st1 := mk 27 [(0, .one (.c (.sl 13 ((xs).map eReply)))), (1, iV (szReply x1 c)), (5, iV (((k : Nat) : Int)))] []) (by kernel_rfl) ?_
        refine ao_nil ?_
        refine a_seq ?_
        refine a_run [0, 1, 5, 25] tyOK (st1 := mk 27 [(0, .one (.c (.sl 13 ((xs).map eReply)))), (1, iV (szReply x1 c)), (5, iV (((k : Nat) : Int))), (25, bV (decide ((szReply x1 c) < 0)))] []) (by kernel_rfl) ?_
        refine a_cond (b := decide ((szReply x1 c) < 0)) (by kernel_rfl) (fun h3 => ?_) (fun h3 => ?_)
        · have g3 := h3
          try simp only [decide_eq_true_eq, decide_eq_false_iff_not, List.length_map, bne_iff_ne, bne_eq_false_iff_eq, beq_iff_eq, beq_eq_false_iff_ne, Bool.not_eq_true, Bool.not_eq_false, Bool.not_eq_true'] at g3
          refine a_seq ?_
          refine a_run [4] tyOK (st1 := mk 27 [(4, iV (-1))] []) (by kernel_rfl) ?_
          refine a_ret ?_
          have e : szS eReply szReply xs l = -1 := by
              rw [← hR, drop_of_get r1, szL, if_pos g3]
          exact end_eq (res' := iV (-1)) (by kernel_rfl) (by rw [e])
        · have g3 := h3
          try simp only [decide_eq_true_eq, decide_eq_false_iff_not, List.length_map, bne_iff_ne, bne_eq_false_iff_eq, beq_iff_eq, beq_eq_false_iff_ne, Bool.not_eq_true, Bool.not_eq_false, Bool.not_eq_true'] at g3
          refine a_skip ?_
          refine a_run [0, 1, 5] tyOK (st1 := mk 27 [(0, .one (.c (.sl 13 ((xs).map eReply)))), (1, iV (szReply x1 c)), (5, iV (IntKind.wrap .i64 ((((k : Nat) : Int)) + 1)))] []) (by kernel_rfl) ?_
          refine ⟨⟨(k + 1), (szReply x1 c), ?_⟩, ?_, ?_⟩
          · exact ⟨by omega, by rw [← hR, drop_of_get r1, szL, if_neg (by omega)]⟩
          · exact (show _ = mk 27 [(0, .one (.c (.sl 13 ((xs).map eReply)))), (1, iV (szReply x1 c)), (5, iV (IntKind.wrap .i64 ((((k : Nat) : Int)) + 1)))] [] by kernel_rfl).trans (by rw [mv_wrap (by omega) (by omega)]; rfl)
          · dsimp only; omega
      · have g2 := h2
        try simp only [decide_eq_true_eq, decide_eq_false_iff_not, List.length_map, bne_iff_ne, bne_eq_false_iff_eq, beq_iff_eq, beq_eq_false_iff_ne, Bool.not_eq_true, Bool.not_eq_false, Bool.not_eq_true'] at g2
        refine a_exit ?_
        refine a_seq ?_
        refine a_run [4] tyOK (st1 := mk 27 [(4, iV c)] []) (by kernel_rfl) ?_
        refine a_ret ?_
        have e : szS eReply szReply xs l = c := by
            rw [← hR, List.drop_eq_nil_of_le (by omega), szL]
        exact end_eq (res' := iV c) (by kernel_rfl) (by rw [e])


def toTx (p : Tx) : Tx := p
/-- laws.toTx -/
theorem ok17 (p : Tx) : CallOK Try.prog 17 [.agg [.c (iC p.c), .c (iC p.e), .c (iC p.n)]] (.agg [.c (iC ((toTx p).c)), .c (iC ((toTx p).e)), .c (iC ((toTx p).n))]) [] :=
  callOK tyOK Try.func17 rfl fun w S hS => by
    refine a_seq ?_
    refine a_run [1, 2] tyOK (st1 := mk 14 [(1, .one (.pl [(1, 0)] 0 0)), (2, .one (.pl [(2, 0)] 0 0))] [(1, [.bx [iC p.c, iC p.e, iC p.n]]), (2, [.bx [iC 0, iC 0, iC 0]])]) (by kernel_rfl) ?_
    refine a_seq ?_
    refine a_run [1, 2, 3] tyOK (st1 := mk 14 [(1, .one (.pl [(1, 0)] 0 0)), (2, .one (.pl [(2, 0)] 0 0)), (3, .one (.pl [(3, 0)] 0 0))] [(1, [.bx [iC p.c, iC p.e, iC p.n]]), (2, [.bx [iC 0, iC 0, iC 0]]), (3, [.bx [iC 0, iC 0, iC 0]])]) (by kernel_rfl) ?_
    refine a_seq ?_
    refine a_run [1, 2, 3] tyOK (st1 := mk 14 [(1, .one (.pl [(1, 0)] 0 0)), (2, .one (.pl [(2, 0)] 0 0)), (3, .one (.pl [(3, 0)] 0 0))] [(1, [.bx [iC p.c, iC p.e, iC p.n]]), (2, [.bx [iC 0, iC 0, iC 0]]), (3, [.bx [iC p.c, iC 0, iC 0]])]) (by kernel_rfl) ?_
    refine a_seq ?_
    refine a_run [1, 2, 3] tyOK (st1 := mk 14 [(1, .one (.pl [(1, 0)] 0 0)), (2, .one (.pl [(2, 0)] 0 0)), (3, .one (.pl [(3, 0)] 0 0))] [(1, [.bx [iC p.c, iC p.e, iC p.n]]), (2, [.bx [iC 0, iC 0, iC 0]]), (3, [.bx [iC p.c, iC p.e, iC 0]])]) (by kernel_rfl) ?_
    refine a_seq ?_
    refine a_run [2, 3] tyOK (st1 := mk 14 [(2, .one (.pl [(2, 0)] 0 0)), (3, .one (.pl [(3, 0)] 0 0))] [(2, [.bx [iC 0, iC 0, iC 0]]), (3, [.bx [iC p.c, iC p.e, iC p.n]])]) (by kernel_rfl) ?_
    refine a_seq ?_
    refine a_run [2] tyOK (st1 := mk 14 [(2, .one (.pl [(2, 0)] 0 0))] [(2, [.bx [iC p.c, iC p.e, iC p.n]])]) (by kernel_rfl) ?_
    refine a_ret ?_
    have e : toTx p = p := by rw [toTx]
    exact end_eq (res' := .agg [.c (iC p.c), .c (iC p.e), .c (iC p.n)]) (by kernel_rfl) (by rw [e])


def toRange (p : Range) : Range := p
/-- laws.toRange -/
theorem ok66 (p : Range) : CallOK Try.prog 66 [.agg [.c (sC p.lo), .c (sC p.hi)]] (.agg [.c (sC ((toRange p).lo)), .c (sC ((toRange p).hi))]) [] :=
  callOK tyOK Try.func66 rfl fun w S hS => by
    refine a_seq ?_
    refine a_run [1, 2] tyOK (st1 := mk 11 [(1, .one (.pl [(1, 0)] 0 0)), (2, .one (.pl [(2, 0)] 0 0))] [(1, [.bx [sC p.lo, sC p.hi]]), (2, [.bx [sC ((⟨#[]⟩ : ByteArray)), sC ((⟨#[]⟩ : ByteArray))]])]) (by kernel_rfl) ?_
    refine a_seq ?_
    refine a_run [1, 2, 3] tyOK (st1 := mk 11 [(1, .one (.pl [(1, 0)] 0 0)), (2, .one (.pl [(2, 0)] 0 0)), (3, .one (.pl [(3, 0)] 0 0))] [(1, [.bx [sC p.lo, sC p.hi]]), (2, [.bx [sC ((⟨#[]⟩ : ByteArray)), sC ((⟨#[]⟩ : ByteArray))]]), (3, [.bx [sC ((⟨#[]⟩ : ByteArray)), sC ((⟨#[]⟩ : ByteArray))]])]) (by kernel_rfl) ?_
    refine a_seq ?_
    refine a_run [1, 2, 3] tyOK (st1 := mk 11 [(1, .one (.pl [(1, 0)] 0 0)), (2, .one (.pl [(2, 0)] 0 0)), (3, .one (.pl [(3, 0)] 0 0))] [(1, [.bx [sC p.lo, sC p.hi]]), (2, [.bx [sC ((⟨#[]⟩ : ByteArray)), sC ((⟨#[]⟩ : ByteArray))]]), (3, [.bx [sC p.lo, sC ((⟨#[]⟩ : ByteArray))]])]) (by kernel_rfl) ?_
    refine a_seq ?_
    refine a_run [2, 3] tyOK (st1 := mk 11 [(2, .one (.pl [(2, 0)] 0 0)), (3, .one (.pl [(3, 0)] 0 0))] [(2, [.bx [sC ((⟨#[]⟩ : ByteArray)), sC ((⟨#[]⟩ : ByteArray))]]), (3, [.bx [sC p.lo, sC p.hi]])]) (by kernel_rfl) ?_
    refine a_seq ?_
    refine a_run [2] tyOK (st1 := mk 11 [(2, .one (.pl [(2, 0)] 0 0))] [(2, [.bx [sC p.lo, sC p.hi]])]) (by kernel_rfl) ?_
    refine a_ret ?_
    have e : toRange p = p := by rw [toRange]
    exact end_eq (res' := .agg [.c (sC p.lo), .c (sC p.hi)]) (by kernel_rfl) (by rw [e])


def toAsk (p : Ask) : Ask := (⟨p.kind, p.key, p.val, toRange p.range, p.most, p.back⟩ : Ask)
/-- laws.toAsk -/
theorem ok38 (p : Ask) : CallOK Try.prog 38 [.agg [.c (iC p.kind), .c (sC p.key), .c (sC p.val), .c (sC p.range.lo), .c (sC p.range.hi), .c (iC p.most), .c (bC p.back)]] (.agg [.c (iC ((toAsk p).kind)), .c (sC ((toAsk p).key)), .c (sC ((toAsk p).val)), .c (sC (((toAsk p).range).lo)), .c (sC (((toAsk p).range).hi)), .c (iC ((toAsk p).most)), .c (bC ((toAsk p).back))]) [] :=
  callOK tyOK Try.func38 rfl fun w S hS => by
    refine a_seq ?_
    refine a_run [1, 2] tyOK (st1 := mk 24 [(1, .one (.pl [(1, 0)] 0 0)), (2, .one (.pl [(2, 0)] 0 0))] [(1, [.bx [iC p.kind, sC p.key, sC p.val, sC p.range.lo, sC p.range.hi, iC p.most, bC p.back]]), (2, [.bx [iC 0, sC ((⟨#[]⟩ : ByteArray)), sC ((⟨#[]⟩ : ByteArray)), sC ((⟨#[]⟩ : ByteArray)), sC ((⟨#[]⟩ : ByteArray)), iC 0, bC false]])]) (by kernel_rfl) ?_
    refine a_seq ?_
    refine a_run [1, 2, 3] tyOK (st1 := mk 24 [(1, .one (.pl [(1, 0)] 0 0)), (2, .one (.pl [(2, 0)] 0 0)), (3, .one (.pl [(3, 0)] 0 0))] [(1, [.bx [iC p.kind, sC p.key, sC p.val, sC p.range.lo, sC p.range.hi, iC p.most, bC p.back]]), (2, [.bx [iC 0, sC ((⟨#[]⟩ : ByteArray)), sC ((⟨#[]⟩ : ByteArray)), sC ((⟨#[]⟩ : ByteArray)), sC ((⟨#[]⟩ : ByteArray)), iC 0, bC false]]), (3, [.bx [iC 0, sC ((⟨#[]⟩ : ByteArray)), sC ((⟨#[]⟩ : ByteArray)), sC ((⟨#[]⟩ : ByteArray)), sC ((⟨#[]⟩ : ByteArray)), iC 0, bC false]])]) (by kernel_rfl) ?_
    refine a_seq ?_
    refine a_run [1, 2, 3] tyOK (st1 := mk 24 [(1, .one (.pl [(1, 0)] 0 0)), (2, .one (.pl [(2, 0)] 0 0)), (3, .one (.pl [(3, 0)] 0 0))] [(1, [.bx [iC p.kind, sC p.key, sC p.val, sC p.range.lo, sC p.range.hi, iC p.most, bC p.back]]), (2, [.bx [iC 0, sC ((⟨#[]⟩ : ByteArray)), sC ((⟨#[]⟩ : ByteArray)), sC ((⟨#[]⟩ : ByteArray)), sC ((⟨#[]⟩ : ByteArray)), iC 0, bC false]]), (3, [.bx [iC p.kind, sC ((⟨#[]⟩ : ByteArray)), sC ((⟨#[]⟩ : ByteArray)), sC ((⟨#[]⟩ : ByteArray)), sC ((⟨#[]⟩ : ByteArray)), iC 0, bC false]])]) (by kernel_rfl) ?_
    refine a_seq ?_
    refine a_run [1, 2, 3] tyOK (st1 := mk 24 [(1, .one (.pl [(1, 0)] 0 0)), (2, .one (.pl [(2, 0)] 0 0)), (3, .one (.pl [(3, 0)] 0 0))] [(1, [.bx [iC p.kind, sC p.key, sC p.val, sC p.range.lo, sC p.range.hi, iC p.most, bC p.back]]), (2, [.bx [iC 0, sC ((⟨#[]⟩ : ByteArray)), sC ((⟨#[]⟩ : ByteArray)), sC ((⟨#[]⟩ : ByteArray)), sC ((⟨#[]⟩ : ByteArray)), iC 0, bC false]]), (3, [.bx [iC p.kind, sC p.key, sC ((⟨#[]⟩ : ByteArray)), sC ((⟨#[]⟩ : ByteArray)), sC ((⟨#[]⟩ : ByteArray)), iC 0, bC false]])]) (by kernel_rfl) ?_
    refine a_seq ?_
    refine a_run [1, 2, 3] tyOK (st1 := mk 24 [(1, .one (.pl [(1, 0)] 0 0)), (2, .one (.pl [(2, 0)] 0 0)), (3, .one (.pl [(3, 0)] 0 0))] [(1, [.bx [iC p.kind, sC p.key, sC p.val, sC p.range.lo, sC p.range.hi, iC p.most, bC p.back]]), (2, [.bx [iC 0, sC ((⟨#[]⟩ : ByteArray)), sC ((⟨#[]⟩ : ByteArray)), sC ((⟨#[]⟩ : ByteArray)), sC ((⟨#[]⟩ : ByteArray)), iC 0, bC false]]), (3, [.bx [iC p.kind, sC p.key, sC p.val, sC ((⟨#[]⟩ : ByteArray)), sC ((⟨#[]⟩ : ByteArray)), iC 0, bC false]])]) (by kernel_rfl) ?_
    refine a_seq ?_
    refine a_ops [0, 1, 2, 3, 4] (by kernel_rfl) ?_
    refine ao_some [0, 1] [2, 3, 4] [1, 2, 3, 14] tyOK (st1 := mk 24 [(1, .one (.pl [(1, 0)] 0 0)), (2, .one (.pl [(2, 0)] 0 0)), (3, .one (.pl [(3, 0)] 0 0)), (14, .agg [.c (sC p.range.lo), .c (sC p.range.hi)])] [(1, [.bx [iC p.kind, sC p.key, sC p.val, sC p.range.lo, sC p.range.hi, iC p.most, bC p.back]]), (2, [.bx [iC 0, sC ((⟨#[]⟩ : ByteArray)), sC ((⟨#[]⟩ : ByteArray)), sC ((⟨#[]⟩ : ByteArray)), sC ((⟨#[]⟩ : ByteArray)), iC 0, bC false]]), (3, [.bx [iC p.kind, sC p.key, sC p.val, sC ((⟨#[]⟩ : ByteArray)), sC ((⟨#[]⟩ : ByteArray)), iC 0, bC false]])]) (by kernel_rfl) ?_
    refine ao_enter (f := 66) (d := 15) (A := [.agg [.c (sC p.range.lo), .c (sC p.range.hi)]]) (st1 := mk 24 [(1, .one (.pl [(1, 0)] 0 0)), (2, .one (.pl [(2, 0)] 0 0)), (3, .one (.pl [(3, 0)] 0 0)), (15, .agg [.c (sC ((toRange p.range).lo)), .c (sC ((toRange p.range).hi))])] [(1, [.bx [iC p.kind, sC p.key, sC p.val, sC p.range.lo, sC p.range.hi, iC p.most, bC p.back]]), (2, [.bx [iC 0, sC ((⟨#[]⟩ : ByteArray)), sC ((⟨#[]⟩ : ByteArray)), sC ((⟨#[]⟩ : ByteArray)), sC ((⟨#[]⟩ : ByteArray)), iC 0, bC false]]), (3, [.bx [iC p.kind, sC p.key, sC p.val, sC ((⟨#[]⟩ : ByteArray)), sC ((⟨#[]⟩ : ByteArray)), iC 0, bC false]])]) [1, 2, 3, 15] (ok66 p.range) Try.call66 (by kernel_rfl) (by kernel_rfl) (by kernel_rfl) ?_
    refine ao_some [3, 4] [] [1, 2, 3] tyOK (st1 := mk 24 [(1, .one (.pl [(1, 0)] 0 0)), (2, .one (.pl [(2, 0)] 0 0)), (3, .one (.pl [(3, 0)] 0 0))] [(1, [.bx [iC p.kind, sC p.key, sC p.val, sC p.range.lo, sC p.range.hi, iC p.most, bC p.back]]), (2, [.bx [iC 0, sC ((⟨#[]⟩ : ByteArray)), sC ((⟨#[]⟩ : ByteArray)), sC ((⟨#[]⟩ : ByteArray)), sC ((⟨#[]⟩ : ByteArray)), iC 0, bC false]]), (3, [.bx [iC p.kind, sC p.key, sC p.val, sC ((toRange p.range).lo), sC ((toRange p.range).hi), iC 0, bC false]])]) (by kernel_rfl) ?_
    refine ao_nil ?_
    refine a_seq ?_
    refine a_run [1, 2, 3] tyOK (st1 := mk 24 [(1, .one (.pl [(1, 0)] 0 0)), (2, .one (.pl [(2, 0)] 0 0)), (3, .one (.pl [(3, 0)] 0 0))] [(1, [.bx [iC p.kind, sC p.key, sC p.val, sC p.range.lo, sC p.range.hi, iC p.most, bC p.back]]), (2, [.bx [iC 0, sC ((⟨#[]⟩ : ByteArray)), sC ((⟨#[]⟩ : ByteArray)), sC ((⟨#[]⟩ : ByteArray)), sC ((⟨#[]⟩ : ByteArray)), iC 0, bC false]]), (3, [.bx [iC p.kind, sC p.key, sC p.val, sC ((toRange p.range).lo), sC ((toRange p.range).hi), iC p.most, bC false]])]) (by kernel_rfl) ?_
    refine a_seq ?_
    refine a_run [2, 3] tyOK (st1 := mk 24 [(2, .one (.pl [(2, 0)] 0 0)), (3, .one (.pl [(3, 0)] 0 0))] [(2, [.bx [iC 0, sC ((⟨#[]⟩ : ByteArray)), sC ((⟨#[]⟩ : ByteArray)), sC ((⟨#[]⟩ : ByteArray)), sC ((⟨#[]⟩ : ByteArray)), iC 0, bC false]]), (3, [.bx [iC p.kind, sC p.key, sC p.val, sC ((toRange p.range).lo), sC ((toRange p.range).hi), iC p.most, bC p.back]])]) (by kernel_rfl) ?_
    refine a_seq ?_
    refine a_run [2] tyOK (st1 := mk 24 [(2, .one (.pl [(2, 0)] 0 0))] [(2, [.bx [iC p.kind, sC p.key, sC p.val, sC ((toRange p.range).lo), sC ((toRange p.range).hi), iC p.most, bC p.back]])]) (by kernel_rfl) ?_
    refine a_ret ?_
    have e : toAsk p = (⟨p.kind, p.key, p.val, toRange p.range, p.most, p.back⟩ : Ask) := by rw [toAsk]
    exact end_eq (res' := .agg [.c (iC p.kind), .c (sC p.key), .c (sC p.val), .c (sC ((toRange p.range).lo)), .c (sC ((toRange p.range).hi)), .c (iC p.most), .c (bC p.back)]) (by kernel_rfl) (by rw [e])


def toPair (p : Pair) : Pair := p
/-- laws.toPair -/
theorem ok45 (p : Pair) : CallOK Try.prog 45 [.agg [.c (sC p.k), .c (sC p.v)]] (.agg [.c (sC ((toPair p).k)), .c (sC ((toPair p).v))]) [] :=
  callOK tyOK Try.func45 rfl fun w S hS => by
    refine a_seq ?_
    refine a_run [1, 2] tyOK (st1 := mk 11 [(1, .one (.pl [(1, 0)] 0 0)), (2, .one (.pl [(2, 0)] 0 0))] [(1, [.bx [sC p.k, sC p.v]]), (2, [.bx [sC ((⟨#[]⟩ : ByteArray)), sC ((⟨#[]⟩ : ByteArray))]])]) (by kernel_rfl) ?_
    refine a_seq ?_
    refine a_run [1, 2, 3] tyOK (st1 := mk 11 [(1, .one (.pl [(1, 0)] 0 0)), (2, .one (.pl [(2, 0)] 0 0)), (3, .one (.pl [(3, 0)] 0 0))] [(1, [.bx [sC p.k, sC p.v]]), (2, [.bx [sC ((⟨#[]⟩ : ByteArray)), sC ((⟨#[]⟩ : ByteArray))]]), (3, [.bx [sC ((⟨#[]⟩ : ByteArray)), sC ((⟨#[]⟩ : ByteArray))]])]) (by kernel_rfl) ?_
    refine a_seq ?_
    refine a_run [1, 2, 3] tyOK (st1 := mk 11 [(1, .one (.pl [(1, 0)] 0 0)), (2, .one (.pl [(2, 0)] 0 0)), (3, .one (.pl [(3, 0)] 0 0))] [(1, [.bx [sC p.k, sC p.v]]), (2, [.bx [sC ((⟨#[]⟩ : ByteArray)), sC ((⟨#[]⟩ : ByteArray))]]), (3, [.bx [sC p.k, sC ((⟨#[]⟩ : ByteArray))]])]) (by kernel_rfl) ?_
    refine a_seq ?_
    refine a_run [2, 3] tyOK (st1 := mk 11 [(2, .one (.pl [(2, 0)] 0 0)), (3, .one (.pl [(3, 0)] 0 0))] [(2, [.bx [sC ((⟨#[]⟩ : ByteArray)), sC ((⟨#[]⟩ : ByteArray))]]), (3, [.bx [sC p.k, sC p.v]])]) (by kernel_rfl) ?_
    refine a_seq ?_
    refine a_run [2] tyOK (st1 := mk 11 [(2, .one (.pl [(2, 0)] 0 0))] [(2, [.bx [sC p.k, sC p.v]])]) (by kernel_rfl) ?_
    refine a_ret ?_
    have e : toPair p = p := by rw [toPair]
    exact end_eq (res' := .agg [.c (sC p.k), .c (sC p.v)]) (by kernel_rfl) (by rw [e])

def toPairS (xs : List Pair) : List Pair := xs
structure L11_1 (xs : (List Pair)) where
  k : Nat
  inv : k ≤ xs.length

/-- laws.toPairS -/
theorem ok11 (xs : (List Pair)) (hn : xs.length * 32 ≤ 140737488351232) : CallOK Try.prog 11 [.one (.c (.sl 2 ((xs).map ePair)))] (.one (.c (.sl 2 ((toPairS xs).map ePair)))) [] :=
  callOK tyOK Try.func11 rfl fun w S hS => by
    refine a_seq ?_
    refine a_run [0] tyOK (st1 := mk 23 [(0, .one (.c (.sl 2 ((xs).map ePair))))] []) (by kernel_rfl) ?_
    refine a_seq ?_
    refine a_ops [0, 1, 2, 3] (by kernel_rfl) ?_
    refine ao_some [0, 1] [2, 3] [0, 6] tyOK (st1 := mk 23 [(0, .one (.c (.sl 2 ((xs).map ePair)))), (6, iV (((((xs).map ePair).length : Nat) : Int)))] []) (by kernel_rfl) ?_
    refine ao_make (d := 7) (size := 2) (bytes := 32) (n := ((((xs).map ePair).length : Nat) : Int)) (c := ((((xs).map ePair).length : Nat) : Int)) (z := [sC ((⟨#[]⟩ : ByteArray)), sC ((⟨#[]⟩ : ByteArray))]) (rows' := fill (fun x => (ePair x).map frzC) [sC ((⟨#[]⟩ : ByteArray)), sC ((⟨#[]⟩ : ByteArray))] xs 0) (st1 := mk 23 [(0, .one (.c (.sl 2 ((xs).map ePair)))), (7, .one (.so [] 7 0 (((xs).map ePair).length)))] [(7, [.sl 2 (fill (fun x => (ePair x).map frzC) [sC ((⟨#[]⟩ : ByteArray)), sC ((⟨#[]⟩ : ByteArray))] xs 0)])]) [0, 7] tyOK (by kernel_rfl) rfl (by omega) (by simp; omega) (by kernel_rfl) (by rw [← fill_zero]; simp) (by kernel_rfl) ?_
    refine ao_some [3] [] [0, 3] tyOK (st1 := mk 23 [(0, .one (.c (.sl 2 ((xs).map ePair)))), (3, .one (.so [] 7 0 (((xs).map ePair).length)))] [(7, [.sl 2 (fill (fun x => (ePair x).map frzC) [sC ((⟨#[]⟩ : ByteArray)), sC ((⟨#[]⟩ : ByteArray))] xs 0)])]) (by kernel_rfl) ?_
    refine ao_nil ?_
    refine a_seq ?_
    refine a_seq ?_
    refine a_run [0, 3, 4] tyOK (st1 := mk 23 [(0, .one (.c (.sl 2 ((xs).map ePair)))), (3, .one (.so [] 7 0 (((xs).map ePair).length))), (4, iV 0)] [(7, [.sl 2 (fill (fun x => (ePair x).map frzC) [sC ((⟨#[]⟩ : ByteArray)), sC ((⟨#[]⟩ : ByteArray))] xs 0)])]) (by kernel_rfl) ?_
    refine a_block ?_
    refine a_keep [0, 3, 4] ?_
    refine a_loop (ι := L11_1 xs) (fun ⟨k, _⟩ => mk 23 [(0, .one (.c (.sl 2 ((xs).map ePair)))), (3, .one (.so [] 7 0 (((xs).map ePair).length))), (4, iV (((k : Nat) : Int)))] [(7, [.sl 2 (fill (fun x => (ePair x).map frzC) [sC ((⟨#[]⟩ : ByteArray)), sC ((⟨#[]⟩ : ByteArray))] xs k)])]) (fun ⟨k, _⟩ => xs.length - k) ⟨0, Nat.zero_le _⟩ (by kernel_rfl) ?_
    rintro ⟨k, hI⟩
    have hk := hI
    show AWp _ _ _ _ (mk 23 [(0, .one (.c (.sl 2 ((xs).map ePair)))), (3, .one (.so [] 7 0 (((xs).map ePair).length))), (4, iV (((k : Nat) : Int)))] [(7, [.sl 2 (fill (fun x => (ePair x).map frzC) [sC ((⟨#[]⟩ : ByteArray)), sC ((⟨#[]⟩ : ByteArray))] xs k)])])
    refine a_seq ?_
    refine a_seq ?_
    refine a_run [0, 3, 4, 11] tyOK (st1 := mk 23 [(0, .one (.c (.sl 2 ((xs).map ePair)))), (3, .one (.so [] 7 0 (((xs).map ePair).length))), (4, iV (((k : Nat) : Int))), (11, bV (decide ((((k : Nat) : Int)) < (((((xs).map ePair).length : Nat) : Int)))))] [(7, [.sl 2 (fill (fun x => (ePair x).map frzC) [sC ((⟨#[]⟩ : ByteArray)), sC ((⟨#[]⟩ : ByteArray))] xs k)])]) (by kernel_rfl) ?_
    refine a_cond (b := decide ((((k : Nat) : Int)) < (((((xs).map ePair).length : Nat) : Int)))) (by kernel_rfl) (fun h1 => ?_) (fun h1 => ?_)
    · have g1 := h1
      try simp only [decide_eq_true_eq, decide_eq_false_iff_not, List.length_map, bne_iff_ne, bne_eq_false_iff_eq, beq_iff_eq, beq_eq_false_iff_ne, Bool.not_eq_true, Bool.not_eq_false, Bool.not_eq_true'] at g1
      refine a_skip ?_
      refine a_seq ?_
      refine a_block ?_
      refine a_ops [0, 1, 2, 3, 4, 5, 6, 7, 8] (by kernel_rfl) ?_
      refine ao_some [0, 1, 2, 3] [4, 5, 6, 7, 8] [0, 3, 4, 14, 15, 16, 17] tyOK (st1 := mk 23 [(0, .one (.c (.sl 2 ((xs).map ePair)))), (3, .one (.so [] 7 0 (((xs).map ePair).length))), (4, iV (((k : Nat) : Int))), (14, .one (.so [] 7 0 (((xs).map ePair).length))), (15, iV (((k : Nat) : Int))), (16, .one (.c (.sl 2 ((xs).map ePair)))), (17, iV (((k : Nat) : Int)))] [(7, [.sl 2 (fill (fun x => (ePair x).map frzC) [sC ((⟨#[]⟩ : ByteArray)), sC ((⟨#[]⟩ : ByteArray))] xs k)])]) (by kernel_rfl) ?_
      have p1 : 0 ≤ (((k : Nat) : Int)) ∧ (((k : Nat) : Int)).toNat < (xs).length := by first | omega | (rw [mv_wrap (by omega) (by omega)]; omega)
      obtain ⟨x1, q1⟩ : ∃ x, (xs)[(((k : Nat) : Int)).toNat]? = some x := ⟨_, List.getElem?_eq_getElem p1.2⟩
      have r1 := q1
      try simp only [Int.toNat_natCast] at r1
      refine ao_index (d := 18) (size := 2) (n := ((k : Nat) : Int)) (rows := (xs).map ePair) (st1 := mk 23 [(0, .one (.c (.sl 2 ((xs).map ePair)))), (3, .one (.so [] 7 0 (((xs).map ePair).length))), (4, iV (((k : Nat) : Int))), (14, .one (.so [] 7 0 (((xs).map ePair).length))), (15, iV (((k : Nat) : Int))), (18, .one (.fp [sC x1.k, sC x1.v] 0))] [(7, [.sl 2 (fill (fun x => (ePair x).map frzC) [sC ((⟨#[]⟩ : ByteArray)), sC ((⟨#[]⟩ : ByteArray))] xs k)])]) (ePair x1) [0, 3, 4, 14, 15, 18] tyOK (by kernel_rfl) p1.1 (by rw [List.getElem?_map, q1]; rfl) (by kernel_rfl) (by kernel_rfl) ?_
      refine ao_some [5] [6, 7, 8] [0, 3, 4, 14, 15, 19] tyOK (st1 := mk 23 [(0, .one (.c (.sl 2 ((xs).map ePair)))), (3, .one (.so [] 7 0 (((xs).map ePair).length))), (4, iV (((k : Nat) : Int))), (14, .one (.so [] 7 0 (((xs).map ePair).length))), (15, iV (((k : Nat) : Int))), (19, .agg [.c (sC x1.k), .c (sC x1.v)])] [(7, [.sl 2 (fill (fun x => (ePair x).map frzC) [sC ((⟨#[]⟩ : ByteArray)), sC ((⟨#[]⟩ : ByteArray))] xs k)])]) (by kernel_rfl) ?_
      refine ao_enter (f := 45) (d := 20) (A := [.agg [.c (sC x1.k), .c (sC x1.v)]]) (st1 := mk 23 [(0, .one (.c (.sl 2 ((xs).map ePair)))), (3, .one (.so [] 7 0 (((xs).map ePair).length))), (4, iV (((k : Nat) : Int))), (14, .one (.so [] 7 0 (((xs).map ePair).length))), (15, iV (((k : Nat) : Int))), (20, .agg [.c (sC ((toPair x1).k)), .c (sC ((toPair x1).v))])] [(7, [.sl 2 (fill (fun x => (ePair x).map frzC) [sC ((⟨#[]⟩ : ByteArray)), sC ((⟨#[]⟩ : ByteArray))] xs k)])]) [0, 3, 4, 14, 15, 20] (ok45 x1) Try.call45 (by kernel_rfl) (by kernel_rfl) (by kernel_rfl) ?_
      refine ao_indexOwn (d := 21) (size := 2) (n0 := (((xs).map ePair).length)) (n := ((k : Nat) : Int)) (p := [(7, 0)]) (rows := fill (fun x => (ePair x).map frzC) [sC ((⟨#[]⟩ : ByteArray)), sC ((⟨#[]⟩ : ByteArray))] xs k) (st1 := mk 23 [(0, .one (.c (.sl 2 ((xs).map ePair)))), (3, .one (.so [] 7 0 (((xs).map ePair).length))), (4, iV (((k : Nat) : Int))), (20, .agg [.c (sC ((toPair x1).k)), .c (sC ((toPair x1).v))]), (21, .one (.pl [(7, 0)] k 0))] [(7, [.sl 2 (fill (fun x => (ePair x).map frzC) [sC ((⟨#[]⟩ : ByteArray)), sC ((⟨#[]⟩ : ByteArray))] xs k)])]) [sC ((⟨#[]⟩ : ByteArray)), sC ((⟨#[]⟩ : ByteArray))] [0, 3, 4, 20, 21] tyOK (by kernel_rfl) (by simp; omega) (by exact fill_get (by omega)) (by kernel_rfl) (by kernel_rfl) ?_
      refine ao_storeOwn (n := k) (size := 2) (q := [(7, 0)]) (rows := fill (fun x => (ePair x).map frzC) [sC ((⟨#[]⟩ : ByteArray)), sC ((⟨#[]⟩ : ByteArray))] xs k) (rows' := fill (fun x => (ePair x).map frzC) [sC ((⟨#[]⟩ : ByteArray)), sC ((⟨#[]⟩ : ByteArray))] xs (k + 1)) (szs := []) (ts := [.c (sC ((toPair x1).k)), .c (sC ((toPair x1).v))]) (t1 := (mk 23 [(0, .one (.c (.sl 2 ((xs).map ePair)))), (3, .one (.so [] 7 0 (((xs).map ePair).length))), (4, iV (((k : Nat) : Int))), (20, .agg [.c (sC ((toPair x1).k)), .c (sC ((toPair x1).v))]), (21, .one (.pl [(7, 0)] k 0))] [(7, [.sl 2 (fill (fun x => (ePair x).map frzC) [sC ((⟨#[]⟩ : ByteArray)), sC ((⟨#[]⟩ : ByteArray))] xs k)])]).t) (st1 := mk 23 [(0, .one (.c (.sl 2 ((xs).map ePair)))), (3, .one (.so [] 7 0 (((xs).map ePair).length))), (4, iV (((k : Nat) : Int)))] [(7, [.sl 2 (fill (fun x => (ePair x).map frzC) [sC ((⟨#[]⟩ : ByteArray)), sC ((⟨#[]⟩ : ByteArray))] xs (k + 1))])]) [sC ((⟨#[]⟩ : ByteArray)), sC ((⟨#[]⟩ : ByteArray))] [0, 3, 4] tyOK (by kernel_rfl) (by exact fill_get (by omega)) (by kernel_rfl) (by kernel_rfl) (by exact fill_set r1) (by kernel_rfl) ?_
      refine ao_nil ?_
      refine a_run [0, 3, 4] tyOK (st1 := mk 23 [(0, .one (.c (.sl 2 ((xs).map ePair)))), (3, .one (.so [] 7 0 (((xs).map ePair).length))), (4, iV (IntKind.wrap .i64 ((((k : Nat) : Int)) + 1)))] [(7, [.sl 2 (fill (fun x => (ePair x).map frzC) [sC ((⟨#[]⟩ : ByteArray)), sC ((⟨#[]⟩ : ByteArray))] xs (k + 1))])]) (by kernel_rfl) ?_
      refine ⟨⟨(k + 1), ?_⟩, ?_, ?_⟩
      · omega
      · exact (show _ = mk 23 [(0, .one (.c (.sl 2 ((xs).map ePair)))), (3, .one (.so [] 7 0 (((xs).map ePair).length))), (4, iV (IntKind.wrap .i64 ((((k : Nat) : Int)) + 1)))] [(7, [.sl 2 (fill (fun x => (ePair x).map frzC) [sC ((⟨#[]⟩ : ByteArray)), sC ((⟨#[]⟩ : ByteArray))] xs (k + 1))])] by kernel_rfl).trans (by rw [mv_wrap (by omega) (by omega)]; rfl)
      · dsimp only; omega
    · have g1 := h1
      try simp only [decide_eq_true_eq, decide_eq_false_iff_not, List.length_map, bne_iff_ne, bne_eq_false_iff_eq, beq_iff_eq, beq_eq_false_iff_ne, Bool.not_eq_true, Bool.not_eq_false, Bool.not_eq_true'] at g1
      refine a_exit ?_
      refine a_seq ?_
      refine a_run [2] tyOK (st1 := mk 23 [(2, .one (.so [] 7 0 (((xs).map ePair).length)))] [(7, [.sl 2 (fill (fun x => (ePair x).map frzC) [sC ((⟨#[]⟩ : ByteArray)), sC ((⟨#[]⟩ : ByteArray))] xs k)])]) (by kernel_rfl) ?_
      refine a_freezeAt (fun _ _ h => h) [] 7 0 2 [2] (n := (((xs).map ePair).length)) (rs := fill (fun x => (ePair x).map frzC) [sC ((⟨#[]⟩ : ByteArray)), sC ((⟨#[]⟩ : ByteArray))] xs k) (st1 := mk 23 [(2, .one (.c (.sl 2 (fill (fun x => (ePair x).map frzC) [sC ((⟨#[]⟩ : ByteArray)), sC ((⟨#[]⟩ : ByteArray))] xs k))))] []) (by kernel_rfl) (by rw [fill_all (by omega)]; simp) ?_
      rw [fill_all (by omega)]
      refine a_imp (k := 2) (c' := .sl 2 ((xs).map ePair)) (st1 := mk 23 [(2, .one (.c (.sl 2 ((xs).map ePair))))] []) (imp_copy _ _ _) (by kernel_rfl) (by kernel_rfl) ?_
      refine a_ret ?_
      have e : toPairS xs = xs := by
          rw [toPairS]
      exact end_eq (res' := .one (.c (.sl 2 ((xs).map ePair)))) (by kernel_rfl) (by rw [e])


def toReply (p : Reply) : Reply := (⟨p.kind, toTx p.tx, toAsk p.ask, p.code, toPairS p.pairs⟩ : Reply)
/-- laws.toReply -/
theorem ok24 (p : Reply) (hp : okReply p) : CallOK Try.prog 24 [.agg [.c (iC p.kind), .c (iC p.tx.c), .c (iC p.tx.e), .c (iC p.tx.n), .c (iC p.ask.kind), .c (sC p.ask.key), .c (sC p.ask.val), .c (sC p.ask.range.lo), .c (sC p.ask.range.hi), .c (iC p.ask.most), .c (bC p.ask.back), .c (iC p.code), .c (.sl 2 ((p.pairs).map ePair))]] (.agg [.c (iC ((toReply p).kind)), .c (iC (((toReply p).tx).c)), .c (iC (((toReply p).tx).e)), .c (iC (((toReply p).tx).n)), .c (iC (((toReply p).ask).kind)), .c (sC (((toReply p).ask).key)), .c (sC (((toReply p).ask).val)), .c (sC ((((toReply p).ask).range).lo)), .c (sC ((((toReply p).ask).range).hi)), .c (iC (((toReply p).ask).most)), .c (bC (((toReply p).ask).back)), .c (iC ((toReply p).code)), .c (.sl 2 (((toReply p).pairs).map ePair))]) [] :=
  callOK tyOK Try.func24 rfl fun w S hS => by
    refine a_seq ?_
    refine a_run [1, 2] tyOK (st1 := mk 23 [(1, .one (.pl [(1, 0)] 0 0)), (2, .one (.pl [(2, 0)] 0 0))] [(1, [.bx [iC p.kind, iC p.tx.c, iC p.tx.e, iC p.tx.n, iC p.ask.kind, sC p.ask.key, sC p.ask.val, sC p.ask.range.lo, sC p.ask.range.hi, iC p.ask.most, bC p.ask.back, iC p.code, .fz (.sl 2 ((p.pairs).map ePair))]]), (2, [.bx [iC 0, iC 0, iC 0, iC 0, iC 0, sC ((⟨#[]⟩ : ByteArray)), sC ((⟨#[]⟩ : ByteArray)), sC ((⟨#[]⟩ : ByteArray)), sC ((⟨#[]⟩ : ByteArray)), iC 0, bC false, iC 0, .sl 2 ([])]])]) (by kernel_rfl) ?_
    refine a_seq ?_
    refine a_run [1, 2, 3] tyOK (st1 := mk 23 [(1, .one (.pl [(1, 0)] 0 0)), (2, .one (.pl [(2, 0)] 0 0)), (3, .one (.pl [(3, 0)] 0 0))] [(1, [.bx [iC p.kind, iC p.tx.c, iC p.tx.e, iC p.tx.n, iC p.ask.kind, sC p.ask.key, sC p.ask.val, sC p.ask.range.lo, sC p.ask.range.hi, iC p.ask.most, bC p.ask.back, iC p.code, .fz (.sl 2 ((p.pairs).map ePair))]]), (2, [.bx [iC 0, iC 0, iC 0, iC 0, iC 0, sC ((⟨#[]⟩ : ByteArray)), sC ((⟨#[]⟩ : ByteArray)), sC ((⟨#[]⟩ : ByteArray)), sC ((⟨#[]⟩ : ByteArray)), iC 0, bC false, iC 0, .sl 2 ([])]]), (3, [.bx [iC 0, iC 0, iC 0, iC 0, iC 0, sC ((⟨#[]⟩ : ByteArray)), sC ((⟨#[]⟩ : ByteArray)), sC ((⟨#[]⟩ : ByteArray)), sC ((⟨#[]⟩ : ByteArray)), iC 0, bC false, iC 0, .sl 2 ([])]])]) (by kernel_rfl) ?_
    refine a_seq ?_
    refine a_run [1, 2, 3] tyOK (st1 := mk 23 [(1, .one (.pl [(1, 0)] 0 0)), (2, .one (.pl [(2, 0)] 0 0)), (3, .one (.pl [(3, 0)] 0 0))] [(1, [.bx [iC p.kind, iC p.tx.c, iC p.tx.e, iC p.tx.n, iC p.ask.kind, sC p.ask.key, sC p.ask.val, sC p.ask.range.lo, sC p.ask.range.hi, iC p.ask.most, bC p.ask.back, iC p.code, .fz (.sl 2 ((p.pairs).map ePair))]]), (2, [.bx [iC 0, iC 0, iC 0, iC 0, iC 0, sC ((⟨#[]⟩ : ByteArray)), sC ((⟨#[]⟩ : ByteArray)), sC ((⟨#[]⟩ : ByteArray)), sC ((⟨#[]⟩ : ByteArray)), iC 0, bC false, iC 0, .sl 2 ([])]]), (3, [.bx [iC p.kind, iC 0, iC 0, iC 0, iC 0, sC ((⟨#[]⟩ : ByteArray)), sC ((⟨#[]⟩ : ByteArray)), sC ((⟨#[]⟩ : ByteArray)), sC ((⟨#[]⟩ : ByteArray)), iC 0, bC false, iC 0, .sl 2 ([])]])]) (by kernel_rfl) ?_
    refine a_seq ?_
    refine a_ops [0, 1, 2, 3, 4] (by kernel_rfl) ?_
    refine ao_some [0, 1] [2, 3, 4] [1, 2, 3, 8] tyOK (st1 := mk 23 [(1, .one (.pl [(1, 0)] 0 0)), (2, .one (.pl [(2, 0)] 0 0)), (3, .one (.pl [(3, 0)] 0 0)), (8, .agg [.c (iC p.tx.c), .c (iC p.tx.e), .c (iC p.tx.n)])] [(1, [.bx [iC p.kind, iC p.tx.c, iC p.tx.e, iC p.tx.n, iC p.ask.kind, sC p.ask.key, sC p.ask.val, sC p.ask.range.lo, sC p.ask.range.hi, iC p.ask.most, bC p.ask.back, iC p.code, .fz (.sl 2 ((p.pairs).map ePair))]]), (2, [.bx [iC 0, iC 0, iC 0, iC 0, iC 0, sC ((⟨#[]⟩ : ByteArray)), sC ((⟨#[]⟩ : ByteArray)), sC ((⟨#[]⟩ : ByteArray)), sC ((⟨#[]⟩ : ByteArray)), iC 0, bC false, iC 0, .sl 2 ([])]]), (3, [.bx [iC p.kind, iC 0, iC 0, iC 0, iC 0, sC ((⟨#[]⟩ : ByteArray)), sC ((⟨#[]⟩ : ByteArray)), sC ((⟨#[]⟩ : ByteArray)), sC ((⟨#[]⟩ : ByteArray)), iC 0, bC false, iC 0, .sl 2 ([])]])]) (by kernel_rfl) ?_
    refine ao_enter (f := 17) (d := 9) (A := [.agg [.c (iC p.tx.c), .c (iC p.tx.e), .c (iC p.tx.n)]]) (st1 := mk 23 [(1, .one (.pl [(1, 0)] 0 0)), (2, .one (.pl [(2, 0)] 0 0)), (3, .one (.pl [(3, 0)] 0 0)), (9, .agg [.c (iC ((toTx p.tx).c)), .c (iC ((toTx p.tx).e)), .c (iC ((toTx p.tx).n))])] [(1, [.bx [iC p.kind, iC p.tx.c, iC p.tx.e, iC p.tx.n, iC p.ask.kind, sC p.ask.key, sC p.ask.val, sC p.ask.range.lo, sC p.ask.range.hi, iC p.ask.most, bC p.ask.back, iC p.code, .fz (.sl 2 ((p.pairs).map ePair))]]), (2, [.bx [iC 0, iC 0, iC 0, iC 0, iC 0, sC ((⟨#[]⟩ : ByteArray)), sC ((⟨#[]⟩ : ByteArray)), sC ((⟨#[]⟩ : ByteArray)), sC ((⟨#[]⟩ : ByteArray)), iC 0, bC false, iC 0, .sl 2 ([])]]), (3, [.bx [iC p.kind, iC 0, iC 0, iC 0, iC 0, sC ((⟨#[]⟩ : ByteArray)), sC ((⟨#[]⟩ : ByteArray)), sC ((⟨#[]⟩ : ByteArray)), sC ((⟨#[]⟩ : ByteArray)), iC 0, bC false, iC 0, .sl 2 ([])]])]) [1, 2, 3, 9] (ok17 p.tx) Try.call17 (by kernel_rfl) (by kernel_rfl) (by kernel_rfl) ?_
    refine ao_some [3, 4] [] [1, 2, 3] tyOK (st1 := mk 23 [(1, .one (.pl [(1, 0)] 0 0)), (2, .one (.pl [(2, 0)] 0 0)), (3, .one (.pl [(3, 0)] 0 0))] [(1, [.bx [iC p.kind, iC p.tx.c, iC p.tx.e, iC p.tx.n, iC p.ask.kind, sC p.ask.key, sC p.ask.val, sC p.ask.range.lo, sC p.ask.range.hi, iC p.ask.most, bC p.ask.back, iC p.code, .fz (.sl 2 ((p.pairs).map ePair))]]), (2, [.bx [iC 0, iC 0, iC 0, iC 0, iC 0, sC ((⟨#[]⟩ : ByteArray)), sC ((⟨#[]⟩ : ByteArray)), sC ((⟨#[]⟩ : ByteArray)), sC ((⟨#[]⟩ : ByteArray)), iC 0, bC false, iC 0, .sl 2 ([])]]), (3, [.bx [iC p.kind, iC ((toTx p.tx).c), iC ((toTx p.tx).e), iC ((toTx p.tx).n), iC 0, sC ((⟨#[]⟩ : ByteArray)), sC ((⟨#[]⟩ : ByteArray)), sC ((⟨#[]⟩ : ByteArray)), sC ((⟨#[]⟩ : ByteArray)), iC 0, bC false, iC 0, .sl 2 ([])]])]) (by kernel_rfl) ?_
    refine ao_nil ?_
    refine a_seq ?_
    refine a_ops [0, 1, 2, 3, 4] (by kernel_rfl) ?_
    refine ao_some [0, 1] [2, 3, 4] [1, 2, 3, 12] tyOK (st1 := mk 23 [(1, .one (.pl [(1, 0)] 0 0)), (2, .one (.pl [(2, 0)] 0 0)), (3, .one (.pl [(3, 0)] 0 0)), (12, .agg [.c (iC p.ask.kind), .c (sC p.ask.key), .c (sC p.ask.val), .c (sC p.ask.range.lo), .c (sC p.ask.range.hi), .c (iC p.ask.most), .c (bC p.ask.back)])] [(1, [.bx [iC p.kind, iC p.tx.c, iC p.tx.e, iC p.tx.n, iC p.ask.kind, sC p.ask.key, sC p.ask.val, sC p.ask.range.lo, sC p.ask.range.hi, iC p.ask.most, bC p.ask.back, iC p.code, .fz (.sl 2 ((p.pairs).map ePair))]]), (2, [.bx [iC 0, iC 0, iC 0, iC 0, iC 0, sC ((⟨#[]⟩ : ByteArray)), sC ((⟨#[]⟩ : ByteArray)), sC ((⟨#[]⟩ : ByteArray)), sC ((⟨#[]⟩ : ByteArray)), iC 0, bC false, iC 0, .sl 2 ([])]]), (3, [.bx [iC p.kind, iC ((toTx p.tx).c), iC ((toTx p.tx).e), iC ((toTx p.tx).n), iC 0, sC ((⟨#[]⟩ : ByteArray)), sC ((⟨#[]⟩ : ByteArray)), sC ((⟨#[]⟩ : ByteArray)), sC ((⟨#[]⟩ : ByteArray)), iC 0, bC false, iC 0, .sl 2 ([])]])]) (by kernel_rfl) ?_
    refine ao_enter (f := 38) (d := 13) (A := [.agg [.c (iC p.ask.kind), .c (sC p.ask.key), .c (sC p.ask.val), .c (sC p.ask.range.lo), .c (sC p.ask.range.hi), .c (iC p.ask.most), .c (bC p.ask.back)]]) (st1 := mk 23 [(1, .one (.pl [(1, 0)] 0 0)), (2, .one (.pl [(2, 0)] 0 0)), (3, .one (.pl [(3, 0)] 0 0)), (13, .agg [.c (iC ((toAsk p.ask).kind)), .c (sC ((toAsk p.ask).key)), .c (sC ((toAsk p.ask).val)), .c (sC (((toAsk p.ask).range).lo)), .c (sC (((toAsk p.ask).range).hi)), .c (iC ((toAsk p.ask).most)), .c (bC ((toAsk p.ask).back))])] [(1, [.bx [iC p.kind, iC p.tx.c, iC p.tx.e, iC p.tx.n, iC p.ask.kind, sC p.ask.key, sC p.ask.val, sC p.ask.range.lo, sC p.ask.range.hi, iC p.ask.most, bC p.ask.back, iC p.code, .fz (.sl 2 ((p.pairs).map ePair))]]), (2, [.bx [iC 0, iC 0, iC 0, iC 0, iC 0, sC ((⟨#[]⟩ : ByteArray)), sC ((⟨#[]⟩ : ByteArray)), sC ((⟨#[]⟩ : ByteArray)), sC ((⟨#[]⟩ : ByteArray)), iC 0, bC false, iC 0, .sl 2 ([])]]), (3, [.bx [iC p.kind, iC ((toTx p.tx).c), iC ((toTx p.tx).e), iC ((toTx p.tx).n), iC 0, sC ((⟨#[]⟩ : ByteArray)), sC ((⟨#[]⟩ : ByteArray)), sC ((⟨#[]⟩ : ByteArray)), sC ((⟨#[]⟩ : ByteArray)), iC 0, bC false, iC 0, .sl 2 ([])]])]) [1, 2, 3, 13] (ok38 p.ask) Try.call38 (by kernel_rfl) (by kernel_rfl) (by kernel_rfl) ?_
    refine ao_some [3, 4] [] [1, 2, 3] tyOK (st1 := mk 23 [(1, .one (.pl [(1, 0)] 0 0)), (2, .one (.pl [(2, 0)] 0 0)), (3, .one (.pl [(3, 0)] 0 0))] [(1, [.bx [iC p.kind, iC p.tx.c, iC p.tx.e, iC p.tx.n, iC p.ask.kind, sC p.ask.key, sC p.ask.val, sC p.ask.range.lo, sC p.ask.range.hi, iC p.ask.most, bC p.ask.back, iC p.code, .fz (.sl 2 ((p.pairs).map ePair))]]), (2, [.bx [iC 0, iC 0, iC 0, iC 0, iC 0, sC ((⟨#[]⟩ : ByteArray)), sC ((⟨#[]⟩ : ByteArray)), sC ((⟨#[]⟩ : ByteArray)), sC ((⟨#[]⟩ : ByteArray)), iC 0, bC false, iC 0, .sl 2 ([])]]), (3, [.bx [iC p.kind, iC ((toTx p.tx).c), iC ((toTx p.tx).e), iC ((toTx p.tx).n), iC ((toAsk p.ask).kind), sC ((toAsk p.ask).key), sC ((toAsk p.ask).val), sC (((toAsk p.ask).range).lo), sC (((toAsk p.ask).range).hi), iC ((toAsk p.ask).most), bC ((toAsk p.ask).back), iC 0, .sl 2 ([])]])]) (by kernel_rfl) ?_
    refine ao_nil ?_
    refine a_seq ?_
    refine a_run [1, 2, 3] tyOK (st1 := mk 23 [(1, .one (.pl [(1, 0)] 0 0)), (2, .one (.pl [(2, 0)] 0 0)), (3, .one (.pl [(3, 0)] 0 0))] [(1, [.bx [iC p.kind, iC p.tx.c, iC p.tx.e, iC p.tx.n, iC p.ask.kind, sC p.ask.key, sC p.ask.val, sC p.ask.range.lo, sC p.ask.range.hi, iC p.ask.most, bC p.ask.back, iC p.code, .fz (.sl 2 ((p.pairs).map ePair))]]), (2, [.bx [iC 0, iC 0, iC 0, iC 0, iC 0, sC ((⟨#[]⟩ : ByteArray)), sC ((⟨#[]⟩ : ByteArray)), sC ((⟨#[]⟩ : ByteArray)), sC ((⟨#[]⟩ : ByteArray)), iC 0, bC false, iC 0, .sl 2 ([])]]), (3, [.bx [iC p.kind, iC ((toTx p.tx).c), iC ((toTx p.tx).e), iC ((toTx p.tx).n), iC ((toAsk p.ask).kind), sC ((toAsk p.ask).key), sC ((toAsk p.ask).val), sC (((toAsk p.ask).range).lo), sC (((toAsk p.ask).range).hi), iC ((toAsk p.ask).most), bC ((toAsk p.ask).back), iC p.code, .sl 2 ([])]])]) (by kernel_rfl) ?_
    refine a_seq ?_
    refine a_ops [0, 1, 2, 3, 4] (by kernel_rfl) ?_
    refine ao_some [0, 1] [2, 3, 4] [2, 3, 19] tyOK (st1 := mk 23 [(2, .one (.pl [(2, 0)] 0 0)), (3, .one (.pl [(3, 0)] 0 0)), (19, .one (.c (.sl 2 ((p.pairs).map ePair))))] [(2, [.bx [iC 0, iC 0, iC 0, iC 0, iC 0, sC ((⟨#[]⟩ : ByteArray)), sC ((⟨#[]⟩ : ByteArray)), sC ((⟨#[]⟩ : ByteArray)), sC ((⟨#[]⟩ : ByteArray)), iC 0, bC false, iC 0, .sl 2 ([])]]), (3, [.bx [iC p.kind, iC ((toTx p.tx).c), iC ((toTx p.tx).e), iC ((toTx p.tx).n), iC ((toAsk p.ask).kind), sC ((toAsk p.ask).key), sC ((toAsk p.ask).val), sC (((toAsk p.ask).range).lo), sC (((toAsk p.ask).range).hi), iC ((toAsk p.ask).most), bC ((toAsk p.ask).back), iC p.code, .sl 2 ([])]])]) (by kernel_rfl) ?_
    refine ao_enter (f := 11) (d := 20) (A := [.one (.c (.sl 2 ((p.pairs).map ePair)))]) (st1 := mk 23 [(2, .one (.pl [(2, 0)] 0 0)), (3, .one (.pl [(3, 0)] 0 0)), (20, .one (.c (.sl 2 ((toPairS p.pairs).map ePair))))] [(2, [.bx [iC 0, iC 0, iC 0, iC 0, iC 0, sC ((⟨#[]⟩ : ByteArray)), sC ((⟨#[]⟩ : ByteArray)), sC ((⟨#[]⟩ : ByteArray)), sC ((⟨#[]⟩ : ByteArray)), iC 0, bC false, iC 0, .sl 2 ([])]]), (3, [.bx [iC p.kind, iC ((toTx p.tx).c), iC ((toTx p.tx).e), iC ((toTx p.tx).n), iC ((toAsk p.ask).kind), sC ((toAsk p.ask).key), sC ((toAsk p.ask).val), sC (((toAsk p.ask).range).lo), sC (((toAsk p.ask).range).hi), iC ((toAsk p.ask).most), bC ((toAsk p.ask).back), iC p.code, .sl 2 ([])]])]) [2, 3, 20] (ok11 p.pairs (by unfold okReply at hp; exact hp)) Try.call11 (by kernel_rfl) (by kernel_rfl) (by kernel_rfl) ?_
    refine ao_some [3, 4] [] [2, 3] tyOK (st1 := mk 23 [(2, .one (.pl [(2, 0)] 0 0)), (3, .one (.pl [(3, 0)] 0 0))] [(2, [.bx [iC 0, iC 0, iC 0, iC 0, iC 0, sC ((⟨#[]⟩ : ByteArray)), sC ((⟨#[]⟩ : ByteArray)), sC ((⟨#[]⟩ : ByteArray)), sC ((⟨#[]⟩ : ByteArray)), iC 0, bC false, iC 0, .sl 2 ([])]]), (3, [.bx [iC p.kind, iC ((toTx p.tx).c), iC ((toTx p.tx).e), iC ((toTx p.tx).n), iC ((toAsk p.ask).kind), sC ((toAsk p.ask).key), sC ((toAsk p.ask).val), sC (((toAsk p.ask).range).lo), sC (((toAsk p.ask).range).hi), iC ((toAsk p.ask).most), bC ((toAsk p.ask).back), iC p.code, .fz (.sl 2 ((toPairS p.pairs).map ePair))]])]) (by kernel_rfl) ?_
    refine ao_nil ?_
    refine a_seq ?_
    refine a_run [2] tyOK (st1 := mk 23 [(2, .one (.pl [(2, 0)] 0 0))] [(2, [.bx [iC p.kind, iC ((toTx p.tx).c), iC ((toTx p.tx).e), iC ((toTx p.tx).n), iC ((toAsk p.ask).kind), sC ((toAsk p.ask).key), sC ((toAsk p.ask).val), sC (((toAsk p.ask).range).lo), sC (((toAsk p.ask).range).hi), iC ((toAsk p.ask).most), bC ((toAsk p.ask).back), iC p.code, .fz (.sl 2 ((toPairS p.pairs).map ePair))]])]) (by kernel_rfl) ?_
    refine a_ret ?_
    have e : toReply p = (⟨p.kind, toTx p.tx, toAsk p.ask, p.code, toPairS p.pairs⟩ : Reply) := by rw [toReply]
    exact end_eq (res' := .agg [.c (iC p.kind), .c (iC ((toTx p.tx).c)), .c (iC ((toTx p.tx).e)), .c (iC ((toTx p.tx).n)), .c (iC ((toAsk p.ask).kind)), .c (sC ((toAsk p.ask).key)), .c (sC ((toAsk p.ask).val)), .c (sC (((toAsk p.ask).range).lo)), .c (sC (((toAsk p.ask).range).hi)), .c (iC ((toAsk p.ask).most)), .c (bC ((toAsk p.ask).back)), .c (iC p.code), .c (.sl 2 ((toPairS p.pairs).map ePair))]) (by kernel_rfl) (by rw [e])

def toReplyS (xs : List Reply) : List Reply := xs
structure L16_1 (xs : (List Reply)) where
  k : Nat
  inv : k ≤ xs.length

/-- laws.toReplyS -/
theorem ok16 (xs : (List Reply)) (hn : xs.length * 152 ≤ 140737488351232) (hok : ∀ x ∈ xs, okReply x) : CallOK Try.prog 16 [.one (.c (.sl 13 ((xs).map eReply)))] (.one (.c (.sl 13 ((toReplyS xs).map eReply)))) [] :=
  callOK tyOK Try.func16 rfl fun w S hS => by
    refine a_seq ?_
    refine a_run [0] tyOK (st1 := mk 23 [(0, .one (.c (.sl 13 ((xs).map eReply))))] []) (by kernel_rfl) ?_
    refine a_seq ?_
    refine a_ops [0, 1, 2, 3] (by kernel_rfl) ?_
    refine ao_some [0, 1] [2, 3] [0, 6] tyOK (st1 := mk 23 [(0, .one (.c (.sl 13 ((xs).map eReply)))), (6, iV (((((xs).map eReply).length : Nat) : Int)))] []) (by kernel_rfl) ?_
    refine ao_make (d := 7) (size := 13) (bytes := 152) (n := ((((xs).map eReply).length : Nat) : Int)) (c := ((((xs).map eReply).length : Nat) : Int)) (z := [iC 0, iC 0, iC 0, iC 0, iC 0, sC ((⟨#[]⟩ : ByteArray)), sC ((⟨#[]⟩ : ByteArray)), sC ((⟨#[]⟩ : ByteArray)), sC ((⟨#[]⟩ : ByteArray)), iC 0, bC false, iC 0, .sl 2 ([])]) (rows' := fill (fun x => (eReply x).map frzC) [iC 0, iC 0, iC 0, iC 0, iC 0, sC ((⟨#[]⟩ : ByteArray)), sC ((⟨#[]⟩ : ByteArray)), sC ((⟨#[]⟩ : ByteArray)), sC ((⟨#[]⟩ : ByteArray)), iC 0, bC false, iC 0, .sl 2 ([])] xs 0) (st1 := mk 23 [(0, .one (.c (.sl 13 ((xs).map eReply)))), (7, .one (.so [] 7 0 (((xs).map eReply).length)))] [(7, [.sl 13 (fill (fun x => (eReply x).map frzC) [iC 0, iC 0, iC 0, iC 0, iC 0, sC ((⟨#[]⟩ : ByteArray)), sC ((⟨#[]⟩ : ByteArray)), sC ((⟨#[]⟩ : ByteArray)), sC ((⟨#[]⟩ : ByteArray)), iC 0, bC false, iC 0, .sl 2 ([])] xs 0)])]) [0, 7] tyOK (by kernel_rfl) rfl (by omega) (by simp; omega) (by kernel_rfl) (by rw [← fill_zero]; simp) (by kernel_rfl) ?_
    refine ao_some [3] [] [0, 3] tyOK (st1 := mk 23 [(0, .one (.c (.sl 13 ((xs).map eReply)))), (3, .one (.so [] 7 0 (((xs).map eReply).length)))] [(7, [.sl 13 (fill (fun x => (eReply x).map frzC) [iC 0, iC 0, iC 0, iC 0, iC 0, sC ((⟨#[]⟩ : ByteArray)), sC ((⟨#[]⟩ : ByteArray)), sC ((⟨#[]⟩ : ByteArray)), sC ((⟨#[]⟩ : ByteArray)), iC 0, bC false, iC 0, .sl 2 ([])] xs 0)])]) (by kernel_rfl) ?_
    refine ao_nil ?_
    refine a_seq ?_
    refine a_seq ?_
    refine a_run [0, 3, 4] tyOK (st1 := mk 23 [(0, .one (.c (.sl 13 ((xs).map eReply)))), (3, .one (.so [] 7 0 (((xs).map eReply).length))), (4, iV 0)] [(7, [.sl 13 (fill (fun x => (eReply x).map frzC) [iC 0, iC 0, iC 0, iC 0, iC 0, sC ((⟨#[]⟩ : ByteArray)), sC ((⟨#[]⟩ : ByteArray)), sC ((⟨#[]⟩ : ByteArray)), sC ((⟨#[]⟩ : ByteArray)), iC 0, bC false, iC 0, .sl 2 ([])] xs 0)])]) (by kernel_rfl) ?_
    refine a_block ?_
    refine a_keep [0, 3, 4] ?_
    refine a_loop (ι := L16_1 xs) (fun ⟨k, _⟩ => mk 23 [(0, .one (.c (.sl 13 ((xs).map eReply)))), (3, .one (.so [] 7 0 (((xs).map eReply).length))), (4, iV (((k : Nat) : Int)))] [(7, [.sl 13 (fill (fun x => (eReply x).map frzC) [iC 0, iC 0, iC 0, iC 0, iC 0, sC ((⟨#[]⟩ : ByteArray)), sC ((⟨#[]⟩ : ByteArray)), sC ((⟨#[]⟩ : ByteArray)), sC ((⟨#[]⟩ : ByteArray)), iC 0, bC false, iC 0, .sl 2 ([])] xs k)])]) (fun ⟨k, _⟩ => xs.length - k) ⟨0, Nat.zero_le _⟩ (by kernel_rfl) ?_
    rintro ⟨k, hI⟩
    have hk := hI
    show AWp _ _ _ _ (mk 23 [(0, .one (.c (.sl 13 ((xs).map eReply)))), (3, .one (.so [] 7 0 (((xs).map eReply).length))), (4, iV (((k : Nat) : Int)))] [(7, [.sl 13 (fill (fun x => (eReply x).map frzC) [iC 0, iC 0, iC 0, iC 0, iC 0, sC ((⟨#[]⟩ : ByteArray)), sC ((⟨#[]⟩ : ByteArray)), sC ((⟨#[]⟩ : ByteArray)), sC ((⟨#[]⟩ : ByteArray)), iC 0, bC false, iC 0, .sl 2 ([])] xs k)])])
    refine a_seq ?_
    refine a_seq ?_
    refine a_run [0, 3, 4, 11] tyOK (st1 := mk 23 [(0, .one (.c (.sl 13 ((xs).map eReply)))), (3, .one (.so [] 7 0 (((xs).map eReply).length))), (4, iV (((k : Nat) : Int))), (11, bV (decide ((((k : Nat) : Int)) < (((((xs).map eReply).length : Nat) : Int)))))] [(7, [.sl 13 (fill (fun x => (eReply x).map frzC) [iC 0, iC 0, iC 0, iC 0, iC 0, sC ((⟨#[]⟩ : ByteArray)), sC ((⟨#[]⟩ : ByteArray)), sC ((⟨#[]⟩ : ByteArray)), sC ((⟨#[]⟩ : ByteArray)), iC 0, bC false, iC 0, .sl 2 ([])] xs k)])]) (by kernel_rfl) ?_
    refine a_cond (b := decide ((((k : Nat) : Int)) < (((((xs).map eReply).length : Nat) : Int)))) (by kernel_rfl) (fun h1 => ?_) (fun h1 => ?_)
    · have g1 := h1
      try simp only [decide_eq_true_eq, decide_eq_false_iff_not, List.length_map, bne_iff_ne, bne_eq_false_iff_eq, beq_iff_eq, beq_eq_false_iff_ne, Bool.not_eq_true, Bool.not_eq_false, Bool.not_eq_true'] at g1
      refine a_skip ?_
      refine a_seq ?_
      refine a_block ?_
      refine a_ops [0, 1, 2, 3, 4, 5, 6, 7, 8] (by kernel_rfl) ?_
      refine ao_some [0, 1, 2, 3] [4, 5, 6, 7, 8] [0, 3, 4, 14, 15, 16, 17] tyOK (st1 := mk 23 [(0, .one (.c (.sl 13 ((xs).map eReply)))), (3, .one (.so [] 7 0 (((xs).map eReply).length))), (4, iV (((k : Nat) : Int))), (14, .one (.so [] 7 0 (((xs).map eReply).length))), (15, iV (((k : Nat) : Int))), (16, .one (.c (.sl 13 ((xs).map eReply)))), (17, iV (((k : Nat) : Int)))] [(7, [.sl 13 (fill (fun x => (eReply x).map frzC) [iC 0, iC 0, iC 0, iC 0, iC 0, sC ((⟨#[]⟩ : ByteArray)), sC ((⟨#[]⟩ : ByteArray)), sC ((⟨#[]⟩ : ByteArray)), sC ((⟨#[]⟩ : ByteArray)), iC 0, bC false, iC 0, .sl 2 ([])] xs k)])]) (by kernel_rfl) ?_
      have p1 : 0 ≤ (((k : Nat) : Int)) ∧ (((k : Nat) : Int)).toNat < (xs).length := by first | omega | (rw [mv_wrap (by omega) (by omega)]; omega)
      obtain ⟨x1, q1⟩ : ∃ x, (xs)[(((k : Nat) : Int)).toNat]? = some x := ⟨_, List.getElem?_eq_getElem p1.2⟩
      have r1 := q1
      try simp only [Int.toNat_natCast] at r1
      refine ao_index (d := 18) (size := 13) (n := ((k : Nat) : Int)) (rows := (xs).map eReply) (st1 := mk 23 [(0, .one (.c (.sl 13 ((xs).map eReply)))), (3, .one (.so [] 7 0 (((xs).map eReply).length))), (4, iV (((k : Nat) : Int))), (14, .one (.so [] 7 0 (((xs).map eReply).length))), (15, iV (((k : Nat) : Int))), (18, .one (.fp [iC x1.kind, iC x1.tx.c, iC x1.tx.e, iC x1.tx.n, iC x1.ask.kind, sC x1.ask.key, sC x1.ask.val, sC x1.ask.range.lo, sC x1.ask.range.hi, iC x1.ask.most, bC x1.ask.back, iC x1.code, .sl 2 ((x1.pairs).map ePair)] 0))] [(7, [.sl 13 (fill (fun x => (eReply x).map frzC) [iC 0, iC 0, iC 0, iC 0, iC 0, sC ((⟨#[]⟩ : ByteArray)), sC ((⟨#[]⟩ : ByteArray)), sC ((⟨#[]⟩ : ByteArray)), sC ((⟨#[]⟩ : ByteArray)), iC 0, bC false, iC 0, .sl 2 ([])] xs k)])]) (eReply x1) [0, 3, 4, 14, 15, 18] tyOK (by kernel_rfl) p1.1 (by rw [List.getElem?_map, q1]; rfl) (by kernel_rfl) (by kernel_rfl) ?_
      refine ao_some [5] [6, 7, 8] [0, 3, 4, 14, 15, 19] tyOK (st1 := mk 23 [(0, .one (.c (.sl 13 ((xs).map eReply)))), (3, .one (.so [] 7 0 (((xs).map eReply).length))), (4, iV (((k : Nat) : Int))), (14, .one (.so [] 7 0 (((xs).map eReply).length))), (15, iV (((k : Nat) : Int))), (19, .agg [.c (iC x1.kind), .c (iC x1.tx.c), .c (iC x1.tx.e), .c (iC x1.tx.n), .c (iC x1.ask.kind), .c (sC x1.ask.key), .c (sC x1.ask.val), .c (sC x1.ask.range.lo), .c (sC x1.ask.range.hi), .c (iC x1.ask.most), .c (bC x1.ask.back), .c (iC x1.code), .c (.sl 2 ((x1.pairs).map ePair))])] [(7, [.sl 13 (fill (fun x => (eReply x).map frzC) [iC 0, iC 0, iC 0, iC 0, iC 0, sC ((⟨#[]⟩ : ByteArray)), sC ((⟨#[]⟩ : ByteArray)), sC ((⟨#[]⟩ : ByteArray)), sC ((⟨#[]⟩ : ByteArray)), iC 0, bC false, iC 0, .sl 2 ([])] xs k)])]) (by kernel_rfl) ?_
      refine ao_enter (f := 24) (d := 20) (A := [.agg [.c (iC x1.kind), .c (iC x1.tx.c), .c (iC x1.tx.e), .c (iC x1.tx.n), .c (iC x1.ask.kind), .c (sC x1.ask.key), .c (sC x1.ask.val), .c (sC x1.ask.range.lo), .c (sC x1.ask.range.hi), .c (iC x1.ask.most), .c (bC x1.ask.back), .c (iC x1.code), .c (.sl 2 ((x1.pairs).map ePair))]]) (st1 := mk 23 [(0, .one (.c (.sl 13 ((xs).map eReply)))), (3, .one (.so [] 7 0 (((xs).map eReply).length))), (4, iV (((k : Nat) : Int))), (14, .one (.so [] 7 0 (((xs).map eReply).length))), (15, iV (((k : Nat) : Int))), (20, .agg [.c (iC ((toReply x1).kind)), .c (iC (((toReply x1).tx).c)), .c (iC (((toReply x1).tx).e)), .c (iC (((toReply x1).tx).n)), .c (iC (((toReply x1).ask).kind)), .c (sC (((toReply x1).ask).key)), .c (sC (((toReply x1).ask).val)), .c (sC ((((toReply x1).ask).range).lo)), .c (sC ((((toReply x1).ask).range).hi)), .c (iC (((toReply x1).ask).most)), .c (bC (((toReply x1).ask).back)), .c (iC ((toReply x1).code)), .c (.sl 2 (((toReply x1).pairs).map ePair))])] [(7, [.sl 13 (fill (fun x => (eReply x).map frzC) [iC 0, iC 0, iC 0, iC 0, iC 0, sC ((⟨#[]⟩ : ByteArray)), sC ((⟨#[]⟩ : ByteArray)), sC ((⟨#[]⟩ : ByteArray)), sC ((⟨#[]⟩ : ByteArray)), iC 0, bC false, iC 0, .sl 2 ([])] xs k)])]) [0, 3, 4, 14, 15, 20] (ok24 x1 (hok _ (List.mem_of_getElem? q1))) Try.call24 (by kernel_rfl) (by kernel_rfl) (by kernel_rfl) ?_
      refine ao_indexOwn (d := 21) (size := 13) (n0 := (((xs).map eReply).length)) (n := ((k : Nat) : Int)) (p := [(7, 0)]) (rows := fill (fun x => (eReply x).map frzC) [iC 0, iC 0, iC 0, iC 0, iC 0, sC ((⟨#[]⟩ : ByteArray)), sC ((⟨#[]⟩ : ByteArray)), sC ((⟨#[]⟩ : ByteArray)), sC ((⟨#[]⟩ : ByteArray)), iC 0, bC false, iC 0, .sl 2 ([])] xs k) (st1 := mk 23 [(0, .one (.c (.sl 13 ((xs).map eReply)))), (3, .one (.so [] 7 0 (((xs).map eReply).length))), (4, iV (((k : Nat) : Int))), (20, .agg [.c (iC ((toReply x1).kind)), .c (iC (((toReply x1).tx).c)), .c (iC (((toReply x1).tx).e)), .c (iC (((toReply x1).tx).n)), .c (iC (((toReply x1).ask).kind)), .c (sC (((toReply x1).ask).key)), .c (sC (((toReply x1).ask).val)), .c (sC ((((toReply x1).ask).range).lo)), .c (sC ((((toReply x1).ask).range).hi)), .c (iC (((toReply x1).ask).most)), .c (bC (((toReply x1).ask).back)), .c (iC ((toReply x1).code)), .c (.sl 2 (((toReply x1).pairs).map ePair))]), (21, .one (.pl [(7, 0)] k 0))] [(7, [.sl 13 (fill (fun x => (eReply x).map frzC) [iC 0, iC 0, iC 0, iC 0, iC 0, sC ((⟨#[]⟩ : ByteArray)), sC ((⟨#[]⟩ : ByteArray)), sC ((⟨#[]⟩ : ByteArray)), sC ((⟨#[]⟩ : ByteArray)), iC 0, bC false, iC 0, .sl 2 ([])] xs k)])]) [iC 0, iC 0, iC 0, iC 0, iC 0, sC ((⟨#[]⟩ : ByteArray)), sC ((⟨#[]⟩ : ByteArray)), sC ((⟨#[]⟩ : ByteArray)), sC ((⟨#[]⟩ : ByteArray)), iC 0, bC false, iC 0, .sl 2 ([])] [0, 3, 4, 20, 21] tyOK (by kernel_rfl) (by simp; omega) (by exact fill_get (by omega)) (by kernel_rfl) (by kernel_rfl) ?_
      refine ao_storeOwn (n := k) (size := 13) (q := [(7, 0)]) (rows := fill (fun x => (eReply x).map frzC) [iC 0, iC 0, iC 0, iC 0, iC 0, sC ((⟨#[]⟩ : ByteArray)), sC ((⟨#[]⟩ : ByteArray)), sC ((⟨#[]⟩ : ByteArray)), sC ((⟨#[]⟩ : ByteArray)), iC 0, bC false, iC 0, .sl 2 ([])] xs k) (rows' := fill (fun x => (eReply x).map frzC) [iC 0, iC 0, iC 0, iC 0, iC 0, sC ((⟨#[]⟩ : ByteArray)), sC ((⟨#[]⟩ : ByteArray)), sC ((⟨#[]⟩ : ByteArray)), sC ((⟨#[]⟩ : ByteArray)), iC 0, bC false, iC 0, .sl 2 ([])] xs (k + 1)) (szs := [0, 0, 0, 0, 0, 0, 0, 0, 0, 0, 0, 0, 2]) (ts := [.c (iC ((toReply x1).kind)), .c (iC (((toReply x1).tx).c)), .c (iC (((toReply x1).tx).e)), .c (iC (((toReply x1).tx).n)), .c (iC (((toReply x1).ask).kind)), .c (sC (((toReply x1).ask).key)), .c (sC (((toReply x1).ask).val)), .c (sC ((((toReply x1).ask).range).lo)), .c (sC ((((toReply x1).ask).range).hi)), .c (iC (((toReply x1).ask).most)), .c (bC (((toReply x1).ask).back)), .c (iC ((toReply x1).code)), .c (.sl 2 (((toReply x1).pairs).map ePair))]) (t1 := (mk 23 [(0, .one (.c (.sl 13 ((xs).map eReply)))), (3, .one (.so [] 7 0 (((xs).map eReply).length))), (4, iV (((k : Nat) : Int))), (20, .agg [.c (iC ((toReply x1).kind)), .c (iC (((toReply x1).tx).c)), .c (iC (((toReply x1).tx).e)), .c (iC (((toReply x1).tx).n)), .c (iC (((toReply x1).ask).kind)), .c (sC (((toReply x1).ask).key)), .c (sC (((toReply x1).ask).val)), .c (sC ((((toReply x1).ask).range).lo)), .c (sC ((((toReply x1).ask).range).hi)), .c (iC (((toReply x1).ask).most)), .c (bC (((toReply x1).ask).back)), .c (iC ((toReply x1).code)), .c (.sl 2 (((toReply x1).pairs).map ePair))]), (21, .one (.pl [(7, 0)] k 0))] [(7, [.sl 13 (fill (fun x => (eReply x).map frzC) [iC 0, iC 0, iC 0, iC 0, iC 0, sC ((⟨#[]⟩ : ByteArray)), sC ((⟨#[]⟩ : ByteArray)), sC ((⟨#[]⟩ : ByteArray)), sC ((⟨#[]⟩ : ByteArray)), iC 0, bC false, iC 0, .sl 2 ([])] xs k)])]).t) (st1 := mk 23 [(0, .one (.c (.sl 13 ((xs).map eReply)))), (3, .one (.so [] 7 0 (((xs).map eReply).length))), (4, iV (((k : Nat) : Int)))] [(7, [.sl 13 (fill (fun x => (eReply x).map frzC) [iC 0, iC 0, iC 0, iC 0, iC 0, sC ((⟨#[]⟩ : ByteArray)), sC ((⟨#[]⟩ : ByteArray)), sC ((⟨#[]⟩ : ByteArray)), sC ((⟨#[]⟩ : ByteArray)), iC 0, bC false, iC 0, .sl 2 ([])] xs (k + 1))])]) [iC 0, iC 0, iC 0, iC 0, iC 0, sC ((⟨#[]⟩ : ByteArray)), sC ((⟨#[]⟩ : ByteArray)), sC ((⟨#[]⟩ : ByteArray)), sC ((⟨#[]⟩ : ByteArray)), iC 0, bC false, iC 0, .sl 2 ([])] [0, 3, 4] tyOK (by kernel_rfl) (by exact fill_get (by omega)) (by kernel_rfl) (by kernel_rfl) (by exact fill_set r1) (by kernel_rfl) ?_
      refine ao_nil ?_
      refine a_run [0, 3, 4] tyOK (st1 := mk 23 [(0, .one (.c (.sl 13 ((xs).map eReply)))), (3, .one (.so [] 7 0 (((xs).map eReply).length))), (4, iV (IntKind.wrap .i64 ((((k : Nat) : Int)) + 1)))] [(7, [.sl 13 (fill (fun x => (eReply x).map frzC) [iC 0, iC 0, iC 0, iC 0, iC 0, sC ((⟨#[]⟩ : ByteArray)), sC ((⟨#[]⟩ : ByteArray)), sC ((⟨#[]⟩ : ByteArray)), sC ((⟨#[]⟩ : ByteArray)), iC 0, bC false, iC 0, .sl 2 ([])] xs (k + 1))])]) (by kernel_rfl) ?_
      refine ⟨⟨(k + 1), ?_⟩, ?_, ?_⟩
      · omega
      · exact (show _ = mk 23 [(0, .one (.c (.sl 13 ((xs).map eReply)))), (3, .one (.so [] 7 0 (((xs).map eReply).length))), (4, iV (IntKind.wrap .i64 ((((k : Nat) : Int)) + 1)))] [(7, [.sl 13 (fill (fun x => (eReply x).map frzC) [iC 0, iC 0, iC 0, iC 0, iC 0, sC ((⟨#[]⟩ : ByteArray)), sC ((⟨#[]⟩ : ByteArray)), sC ((⟨#[]⟩ : ByteArray)), sC ((⟨#[]⟩ : ByteArray)), iC 0, bC false, iC 0, .sl 2 ([])] xs (k + 1))])] by kernel_rfl).trans (by rw [mv_wrap (by omega) (by omega)]; rfl)
      · dsimp only; omega
    · have g1 := h1
      try simp only [decide_eq_true_eq, decide_eq_false_iff_not, List.length_map, bne_iff_ne, bne_eq_false_iff_eq, beq_iff_eq, beq_eq_false_iff_ne, Bool.not_eq_true, Bool.not_eq_false, Bool.not_eq_true'] at g1
      refine a_exit ?_
      refine a_seq ?_
      refine a_run [2] tyOK (st1 := mk 23 [(2, .one (.so [] 7 0 (((xs).map eReply).length)))] [(7, [.sl 13 (fill (fun x => (eReply x).map frzC) [iC 0, iC 0, iC 0, iC 0, iC 0, sC ((⟨#[]⟩ : ByteArray)), sC ((⟨#[]⟩ : ByteArray)), sC ((⟨#[]⟩ : ByteArray)), sC ((⟨#[]⟩ : ByteArray)), iC 0, bC false, iC 0, .sl 2 ([])] xs k)])]) (by kernel_rfl) ?_
      refine a_freezeAt (fun _ _ h => h) [] 7 0 2 [2] (n := (((xs).map eReply).length)) (rs := fill (fun x => (eReply x).map frzC) [iC 0, iC 0, iC 0, iC 0, iC 0, sC ((⟨#[]⟩ : ByteArray)), sC ((⟨#[]⟩ : ByteArray)), sC ((⟨#[]⟩ : ByteArray)), sC ((⟨#[]⟩ : ByteArray)), iC 0, bC false, iC 0, .sl 2 ([])] xs k) (st1 := mk 23 [(2, .one (.c (.sl 13 (fill (fun x => (eReply x).map frzC) [iC 0, iC 0, iC 0, iC 0, iC 0, sC ((⟨#[]⟩ : ByteArray)), sC ((⟨#[]⟩ : ByteArray)), sC ((⟨#[]⟩ : ByteArray)), sC ((⟨#[]⟩ : ByteArray)), iC 0, bC false, iC 0, .sl 2 ([])] xs k))))] []) (by kernel_rfl) (by rw [fill_all (by omega)]; simp) ?_
      rw [fill_all (by omega)]
      refine a_imp (k := 2) (c' := .sl 13 ((xs).map eReply)) (st1 := mk 23 [(2, .one (.c (.sl 13 ((xs).map eReply))))] []) (imp_copy _ _ _) (by kernel_rfl) (by kernel_rfl) ?_
      refine a_ret ?_
      have e : toReplyS xs = xs := by
          rw [toReplyS]
      exact end_eq (res' := .one (.c (.sl 13 ((xs).map eReply)))) (by kernel_rfl) (by rw [e])


def eqPair (p : Pair) (q : Pair) : Bool := bif (!(p.k.toList == q.k.toList)) then false else (bif (!(p.v.toList == q.v.toList)) then false else true)
/-- laws.eqPair -/
theorem ok47 (p : Pair) (q : Pair) : CallOK Try.prog 47 [.agg [.c (sC p.k), .c (sC p.v)], .agg [.c (sC q.k), .c (sC q.v)]] (bV (eqPair p q)) [] :=
  callOK tyOK Try.func47 rfl fun w S hS => by
    refine a_seq ?_
    refine a_run [2, 3] tyOK (st1 := mk 15 [(2, .one (.pl [(2, 0)] 0 0)), (3, .one (.pl [(3, 0)] 0 0))] [(2, [.bx [sC p.k, sC p.v]]), (3, [.bx [sC q.k, sC q.v]])]) (by kernel_rfl) ?_
    refine a_seq ?_
    refine a_seq ?_
    refine a_run [2, 3, 9] tyOK (st1 := mk 15 [(2, .one (.pl [(2, 0)] 0 0)), (3, .one (.pl [(3, 0)] 0 0)), (9, bV (!(p.k.toList == q.k.toList)))] [(2, [.bx [sC p.k, sC p.v]]), (3, [.bx [sC q.k, sC q.v]])]) (by kernel_rfl) ?_
    refine a_cond (b := !(p.k.toList == q.k.toList)) (by kernel_rfl) (fun h1 => ?_) (fun h1 => ?_)
    · have g1 := h1
      try simp only [decide_eq_true_eq, decide_eq_false_iff_not, List.length_map, bne_iff_ne, bne_eq_false_iff_eq, beq_iff_eq, beq_eq_false_iff_ne, Bool.not_eq_true, Bool.not_eq_false, Bool.not_eq_true'] at g1
      refine a_seq ?_
      refine a_run [4] tyOK (st1 := mk 15 [(4, bV false)] []) (by kernel_rfl) ?_
      refine a_ret ?_
      have e : eqPair p q = false := by rw [eqPair]; rw [h1, cond_true]
      exact end_eq (res' := bV false) (by kernel_rfl) (by rw [e])
    · have g1 := h1
      try simp only [decide_eq_true_eq, decide_eq_false_iff_not, List.length_map, bne_iff_ne, bne_eq_false_iff_eq, beq_iff_eq, beq_eq_false_iff_ne, Bool.not_eq_true, Bool.not_eq_false, Bool.not_eq_true'] at g1
      refine a_skip ?_
      refine a_seq ?_
      refine a_seq ?_
      refine a_run [14] tyOK (st1 := mk 15 [(14, bV (!(p.v.toList == q.v.toList)))] []) (by kernel_rfl) ?_
      refine a_cond (b := !(p.v.toList == q.v.toList)) (by kernel_rfl) (fun h2 => ?_) (fun h2 => ?_)
      · have g2 := h2
        try simp only [decide_eq_true_eq, decide_eq_false_iff_not, List.length_map, bne_iff_ne, bne_eq_false_iff_eq, beq_iff_eq, beq_eq_false_iff_ne, Bool.not_eq_true, Bool.not_eq_false, Bool.not_eq_true'] at g2
        refine a_seq ?_
        refine a_run [4] tyOK (st1 := mk 15 [(4, bV false)] []) (by kernel_rfl) ?_
        refine a_ret ?_
        have e : eqPair p q = false := by rw [eqPair]; rw [h1, cond_false, h2, cond_true]
        exact end_eq (res' := bV false) (by kernel_rfl) (by rw [e])
      · have g2 := h2
        try simp only [decide_eq_true_eq, decide_eq_false_iff_not, List.length_map, bne_iff_ne, bne_eq_false_iff_eq, beq_iff_eq, beq_eq_false_iff_ne, Bool.not_eq_true, Bool.not_eq_false, Bool.not_eq_true'] at g2
        refine a_skip ?_
        refine a_seq ?_
        refine a_run [4] tyOK (st1 := mk 15 [(4, bV true)] []) (by kernel_rfl) ?_
        refine a_ret ?_
        have e : eqPair p q = true := by rw [eqPair]; rw [h1, cond_false, h2, cond_false]
        exact end_eq (res' := bV true) (by kernel_rfl) (by rw [e])


def eqTx (p : Tx) (q : Tx) : Bool := bif ((p.c != q.c)) then false else (bif ((p.e != q.e)) then false else (bif ((p.n != q.n)) then false else true))
/-- laws.eqTx -/
theorem ok56 (p : Tx) (q : Tx) : CallOK Try.prog 56 [.agg [.c (iC p.c), .c (iC p.e), .c (iC p.n)], .agg [.c (iC q.c), .c (iC q.e), .c (iC q.n)]] (bV (eqTx p q)) [] :=
  callOK tyOK Try.func56 rfl fun w S hS => by
    refine a_seq ?_
    refine a_run [2, 3] tyOK (st1 := mk 20 [(2, .one (.pl [(2, 0)] 0 0)), (3, .one (.pl [(3, 0)] 0 0))] [(2, [.bx [iC p.c, iC p.e, iC p.n]]), (3, [.bx [iC q.c, iC q.e, iC q.n]])]) (by kernel_rfl) ?_
    refine a_seq ?_
    refine a_seq ?_
    refine a_run [2, 3, 9] tyOK (st1 := mk 20 [(2, .one (.pl [(2, 0)] 0 0)), (3, .one (.pl [(3, 0)] 0 0)), (9, bV ((p.c != q.c)))] [(2, [.bx [iC p.c, iC p.e, iC p.n]]), (3, [.bx [iC q.c, iC q.e, iC q.n]])]) (by kernel_rfl) ?_
    refine a_cond (b := (p.c != q.c)) (by kernel_rfl) (fun h1 => ?_) (fun h1 => ?_)
    · have g1 := h1
      try simp only [decide_eq_true_eq, decide_eq_false_iff_not, List.length_map, bne_iff_ne, bne_eq_false_iff_eq, beq_iff_eq, beq_eq_false_iff_ne, Bool.not_eq_true, Bool.not_eq_false, Bool.not_eq_true'] at g1
      refine a_seq ?_
      refine a_run [4] tyOK (st1 := mk 20 [(4, bV false)] []) (by kernel_rfl) ?_
      refine a_ret ?_
      have e : eqTx p q = false := by rw [eqTx]; rw [h1, cond_true]
      exact end_eq (res' := bV false) (by kernel_rfl) (by rw [e])
    · have g1 := h1
      try simp only [decide_eq_true_eq, decide_eq_false_iff_not, List.length_map, bne_iff_ne, bne_eq_false_iff_eq, beq_iff_eq, beq_eq_false_iff_ne, Bool.not_eq_true, Bool.not_eq_false, Bool.not_eq_true'] at g1
      refine a_skip ?_
      refine a_seq ?_
      refine a_seq ?_
      refine a_run [2, 3, 14] tyOK (st1 := mk 20 [(2, .one (.pl [(2, 0)] 0 0)), (3, .one (.pl [(3, 0)] 0 0)), (14, bV ((p.e != q.e)))] [(2, [.bx [iC p.c, iC p.e, iC p.n]]), (3, [.bx [iC q.c, iC q.e, iC q.n]])]) (by kernel_rfl) ?_
      refine a_cond (b := (p.e != q.e)) (by kernel_rfl) (fun h2 => ?_) (fun h2 => ?_)
      · have g2 := h2
        try simp only [decide_eq_true_eq, decide_eq_false_iff_not, List.length_map, bne_iff_ne, bne_eq_false_iff_eq, beq_iff_eq, beq_eq_false_iff_ne, Bool.not_eq_true, Bool.not_eq_false, Bool.not_eq_true'] at g2
        refine a_seq ?_
        refine a_run [4] tyOK (st1 := mk 20 [(4, bV false)] []) (by kernel_rfl) ?_
        refine a_ret ?_
        have e : eqTx p q = false := by rw [eqTx]; rw [h1, cond_false, h2, cond_true]
        exact end_eq (res' := bV false) (by kernel_rfl) (by rw [e])
      · have g2 := h2
        try simp only [decide_eq_true_eq, decide_eq_false_iff_not, List.length_map, bne_iff_ne, bne_eq_false_iff_eq, beq_iff_eq, beq_eq_false_iff_ne, Bool.not_eq_true, Bool.not_eq_false, Bool.not_eq_true'] at g2
        refine a_skip ?_
        refine a_seq ?_
        refine a_seq ?_
        refine a_run [19] tyOK (st1 := mk 20 [(19, bV ((p.n != q.n)))] []) (by kernel_rfl) ?_
        refine a_cond (b := (p.n != q.n)) (by kernel_rfl) (fun h3 => ?_) (fun h3 => ?_)
        · have g3 := h3
          try simp only [decide_eq_true_eq, decide_eq_false_iff_not, List.length_map, bne_iff_ne, bne_eq_false_iff_eq, beq_iff_eq, beq_eq_false_iff_ne, Bool.not_eq_true, Bool.not_eq_false, Bool.not_eq_true'] at g3
          refine a_seq ?_
          refine a_run [4] tyOK (st1 := mk 20 [(4, bV false)] []) (by kernel_rfl) ?_
          refine a_ret ?_
          have e : eqTx p q = false := by rw [eqTx]; rw [h1, cond_false, h2, cond_false, h3, cond_true]
          exact end_eq (res' := bV false) (by kernel_rfl) (by rw [e])
        · have g3 := h3
          try simp only [decide_eq_true_eq, decide_eq_false_iff_not, List.length_map, bne_iff_ne, bne_eq_false_iff_eq, beq_iff_eq, beq_eq_false_iff_ne, Bool.not_eq_true, Bool.not_eq_false, Bool.not_eq_true'] at g3
          refine a_skip ?_
          refine a_seq ?_
          refine a_run [4] tyOK (st1 := mk 20 [(4, bV true)] []) (by kernel_rfl) ?_
          refine a_ret ?_
          have e : eqTx p q = true := by rw [eqTx]; rw [h1, cond_false, h2, cond_false, h3, cond_false]
          exact end_eq (res' := bV true) (by kernel_rfl) (by rw [e])


def eqRange (p : Range) (q : Range) : Bool := bif (!(p.lo.toList == q.lo.toList)) then false else (bif (!(p.hi.toList == q.hi.toList)) then false else true)
/-- laws.eqRange -/
theorem ok88 (p : Range) (q : Range) : CallOK Try.prog 88 [.agg [.c (sC p.lo), .c (sC p.hi)], .agg [.c (sC q.lo), .c (sC q.hi)]] (bV (eqRange p q)) [] :=
  callOK tyOK Try.func88 rfl fun w S hS => by
    refine a_seq ?_
    refine a_run [2, 3] tyOK (st1 := mk 15 [(2, .one (.pl [(2, 0)] 0 0)), (3, .one (.pl [(3, 0)] 0 0))] [(2, [.bx [sC p.lo, sC p.hi]]), (3, [.bx [sC q.lo, sC q.hi]])]) (by kernel_rfl) ?_
    refine a_seq ?_
    refine a_seq ?_
    refine a_run [2, 3, 9] tyOK (st1 := mk 15 [(2, .one (.pl [(2, 0)] 0 0)), (3, .one (.pl [(3, 0)] 0 0)), (9, bV (!(p.lo.toList == q.lo.toList)))] [(2, [.bx [sC p.lo, sC p.hi]]), (3, [.bx [sC q.lo, sC q.hi]])]) (by kernel_rfl) ?_
    refine a_cond (b := !(p.lo.toList == q.lo.toList)) (by kernel_rfl) (fun h1 => ?_) (fun h1 => ?_)
    · have g1 := h1
      try simp only [decide_eq_true_eq, decide_eq_false_iff_not, List.length_map, bne_iff_ne, bne_eq_false_iff_eq, beq_iff_eq, beq_eq_false_iff_ne, Bool.not_eq_true, Bool.not_eq_false, Bool.not_eq_true'] at g1
      refine a_seq ?_
      refine a_run [4] tyOK (st1 := mk 15 [(4, bV false)] []) (by kernel_rfl) ?_
      refine a_ret ?_
      have e : eqRange p q = false := by rw [eqRange]; rw [h1, cond_true]
      exact end_eq (res' := bV false) (by kernel_rfl) (by rw [e])
    · have g1 := h1
      try simp only [decide_eq_true_eq, decide_eq_false_iff_not, List.length_map, bne_iff_ne, bne_eq_false_iff_eq, beq_iff_eq, beq_eq_false_iff_ne, Bool.not_eq_true, Bool.not_eq_false, Bool.not_eq_true'] at g1
      refine a_skip ?_
      refine a_seq ?_
      refine a_seq ?_
      refine a_run [14] tyOK (st1 := mk 15 [(14, bV (!(p.hi.toList == q.hi.toList)))] []) (by kernel_rfl) ?_
      refine a_cond (b := !(p.hi.toList == q.hi.toList)) (by kernel_rfl) (fun h2 => ?_) (fun h2 => ?_)
      · have g2 := h2
        try simp only [decide_eq_true_eq, decide_eq_false_iff_not, List.length_map, bne_iff_ne, bne_eq_false_iff_eq, beq_iff_eq, beq_eq_false_iff_ne, Bool.not_eq_true, Bool.not_eq_false, Bool.not_eq_true'] at g2
        refine a_seq ?_
        refine a_run [4] tyOK (st1 := mk 15 [(4, bV false)] []) (by kernel_rfl) ?_
        refine a_ret ?_
        have e : eqRange p q = false := by rw [eqRange]; rw [h1, cond_false, h2, cond_true]
        exact end_eq (res' := bV false) (by kernel_rfl) (by rw [e])
      · have g2 := h2
        try simp only [decide_eq_true_eq, decide_eq_false_iff_not, List.length_map, bne_iff_ne, bne_eq_false_iff_eq, beq_iff_eq, beq_eq_false_iff_ne, Bool.not_eq_true, Bool.not_eq_false, Bool.not_eq_true'] at g2
        refine a_skip ?_
        refine a_seq ?_
        refine a_run [4] tyOK (st1 := mk 15 [(4, bV true)] []) (by kernel_rfl) ?_
        refine a_ret ?_
        have e : eqRange p q = true := by rw [eqRange]; rw [h1, cond_false, h2, cond_false]
        exact end_eq (res' := bV true) (by kernel_rfl) (by rw [e])


def eqAsk (p : Ask) (q : Ask) : Bool := bif ((p.kind != q.kind)) then false else (bif (!(p.key.toList == q.key.toList)) then false else (bif (!(p.val.toList == q.val.toList)) then false else (bif (!(eqRange p.range q.range)) then false else (bif ((p.most != q.most)) then false else (bif (!(p.back == q.back)) then false else true)))))
/-- laws.eqAsk -/
theorem ok57 (p : Ask) (q : Ask) : CallOK Try.prog 57 [.agg [.c (iC p.kind), .c (sC p.key), .c (sC p.val), .c (sC p.range.lo), .c (sC p.range.hi), .c (iC p.most), .c (bC p.back)], .agg [.c (iC q.kind), .c (sC q.key), .c (sC q.val), .c (sC q.range.lo), .c (sC q.range.hi), .c (iC q.most), .c (bC q.back)]] (bV (eqAsk p q)) [] :=
  callOK tyOK Try.func57 rfl fun w S hS => by
    refine a_seq ?_
    refine a_run [2, 3] tyOK (st1 := mk 36 [(2, .one (.pl [(2, 0)] 0 0)), (3, .one (.pl [(3, 0)] 0 0))] [(2, [.bx [iC p.kind, sC p.key, sC p.val, sC p.range.lo, sC p.range.hi, iC p.most, bC p.back]]), (3, [.bx [iC q.kind, sC q.key, sC q.val, sC q.range.lo, sC q.range.hi, iC q.most, bC q.back]])]) (by kernel_rfl) ?_
    refine a_seq ?_
    refine a_seq ?_
    refine a_run [2, 3, 9] tyOK (st1 := mk 36 [(2, .one (.pl [(2, 0)] 0 0)), (3, .one (.pl [(3, 0)] 0 0)), (9, bV ((p.kind != q.kind)))] [(2, [.bx [iC p.kind, sC p.key, sC p.val, sC p.range.lo, sC p.range.hi, iC p.most, bC p.back]]), (3, [.bx [iC q.kind, sC q.key, sC q.val, sC q.range.lo, sC q.range.hi, iC q.most, bC q.back]])]) (by kernel_rfl) ?_
    refine a_cond (b := (p.kind != q.kind)) (by kernel_rfl) (fun h1 => ?_) (fun h1 => ?_)
    · have g1 := h1
      try simp only [decide_eq_true_eq, decide_eq_false_iff_not, List.length_map, bne_iff_ne, bne_eq_false_iff_eq, beq_iff_eq, beq_eq_false_iff_ne, Bool.not_eq_true, Bool.not_eq_false, Bool.not_eq_true'] at g1
      refine a_seq ?_
      refine a_run [4] tyOK (st1 := mk 36 [(4, bV false)] []) (by kernel_rfl) ?_
      refine a_ret ?_
      have e : eqAsk p q = false := by rw [eqAsk]; rw [h1, cond_true]
      exact end_eq (res' := bV false) (by kernel_rfl) (by rw [e])
    · have g1 := h1
      try simp only [decide_eq_true_eq, decide_eq_false_iff_not, List.length_map, bne_iff_ne, bne_eq_false_iff_eq, beq_iff_eq, beq_eq_false_iff_ne, Bool.not_eq_true, Bool.not_eq_false, Bool.not_eq_true'] at g1
      refine a_skip ?_
      refine a_seq ?_
      refine a_seq ?_
      refine a_run [2, 3, 14] tyOK (st1 := mk 36 [(2, .one (.pl [(2, 0)] 0 0)), (3, .one (.pl [(3, 0)] 0 0)), (14, bV (!(p.key.toList == q.key.toList)))] [(2, [.bx [iC p.kind, sC p.key, sC p.val, sC p.range.lo, sC p.range.hi, iC p.most, bC p.back]]), (3, [.bx [iC q.kind, sC q.key, sC q.val, sC q.range.lo, sC q.range.hi, iC q.most, bC q.back]])]) (by kernel_rfl) ?_
      refine a_cond (b := !(p.key.toList == q.key.toList)) (by kernel_rfl) (fun h2 => ?_) (fun h2 => ?_)
      · have g2 := h2
        try simp only [decide_eq_true_eq, decide_eq_false_iff_not, List.length_map, bne_iff_ne, bne_eq_false_iff_eq, beq_iff_eq, beq_eq_false_iff_ne, Bool.not_eq_true, Bool.not_eq_false, Bool.not_eq_true'] at g2
        refine a_seq ?_
        refine a_run [4] tyOK (st1 := mk 36 [(4, bV false)] []) (by kernel_rfl) ?_
        refine a_ret ?_
        have e : eqAsk p q = false := by rw [eqAsk]; rw [h1, cond_false, h2, cond_true]
        exact end_eq (res' := bV false) (by kernel_rfl) (by rw [e])
      · have g2 := h2
        try simp only [decide_eq_true_eq, decide_eq_false_iff_not, List.length_map, bne_iff_ne, bne_eq_false_iff_eq, beq_iff_eq, beq_eq_false_iff_ne, Bool.not_eq_true, Bool.not_eq_false, Bool.not_eq_true'] at g2
        refine a_skip ?_
        refine a_seq ?_
        refine a_seq ?_
        refine a_run [2, 3, 19] tyOK (st1 := mk 36 [(2, .one (.pl [(2, 0)] 0 0)), (3, .one (.pl [(3, 0)] 0 0)), (19, bV (!(p.val.toList == q.val.toList)))] [(2, [.bx [iC p.kind, sC p.key, sC p.val, sC p.range.lo, sC p.range.hi, iC p.most, bC p.back]]), (3, [.bx [iC q.kind, sC q.key, sC q.val, sC q.range.lo, sC q.range.hi, iC q.most, bC q.back]])]) (by kernel_rfl) ?_
        refine a_cond (b := !(p.val.toList == q.val.toList)) (by kernel_rfl) (fun h3 => ?_) (fun h3 => ?_)
        · have g3 := h3
          try simp only [decide_eq_true_eq, decide_eq_false_iff_not, List.length_map, bne_iff_ne, bne_eq_false_iff_eq, beq_iff_eq, beq_eq_false_iff_ne, Bool.not_eq_true, Bool.not_eq_false, Bool.not_eq_true'] at g3
          refine a_seq ?_
          refine a_run [4] tyOK (st1 := mk 36 [(4, bV false)] []) (by kernel_rfl) ?_
          refine a_ret ?_
          have e : eqAsk p q = false := by rw [eqAsk]; rw [h1, cond_false, h2, cond_false, h3, cond_true]
          exact end_eq (res' := bV false) (by kernel_rfl) (by rw [e])
        · have g3 := h3
          try simp only [decide_eq_true_eq, decide_eq_false_iff_not, List.length_map, bne_iff_ne, bne_eq_false_iff_eq, beq_iff_eq, beq_eq_false_iff_ne, Bool.not_eq_true, Bool.not_eq_false, Bool.not_eq_true'] at g3
          refine a_skip ?_
          refine a_seq ?_
          refine a_seq ?_
          refine a_ops [0, 1, 2, 3, 4, 5] (by kernel_rfl) ?_
          refine ao_some [0, 1, 2, 3] [4, 5] [2, 3, 21, 23] tyOK (st1 := mk 36 [(2, .one (.pl [(2, 0)] 0 0)), (3, .one (.pl [(3, 0)] 0 0)), (21, .agg [.c (sC p.range.lo), .c (sC p.range.hi)]), (23, .agg [.c (sC q.range.lo), .c (sC q.range.hi)])] [(2, [.bx [iC p.kind, sC p.key, sC p.val, sC p.range.lo, sC p.range.hi, iC p.most, bC p.back]]), (3, [.bx [iC q.kind, sC q.key, sC q.val, sC q.range.lo, sC q.range.hi, iC q.most, bC q.back]])]) (by kernel_rfl) ?_
          refine ao_enter (f := 88) (d := 24) (A := [.agg [.c (sC p.range.lo), .c (sC p.range.hi)], .agg [.c (sC q.range.lo), .c (sC q.range.hi)]]) (st1 := mk 36 [(2, .one (.pl [(2, 0)] 0 0)), (3, .one (.pl [(3, 0)] 0 0)), (24, bV (eqRange p.range q.range))] [(2, [.bx [iC p.kind, sC p.key, sC p.val, sC p.range.lo, sC p.range.hi, iC p.most, bC p.back]]), (3, [.bx [iC q.kind, sC q.key, sC q.val, sC q.range.lo, sC q.range.hi, iC q.most, bC q.back]])]) [2, 3, 24] (ok88 p.range q.range) Try.call88 (by kernel_rfl) (by kernel_rfl) (by kernel_rfl) ?_
          refine ao_some [5] [] [2, 3, 25] tyOK (st1 := mk 36 [(2, .one (.pl [(2, 0)] 0 0)), (3, .one (.pl [(3, 0)] 0 0)), (25, bV (!(eqRange p.range q.range)))] [(2, [.bx [iC p.kind, sC p.key, sC p.val, sC p.range.lo, sC p.range.hi, iC p.most, bC p.back]]), (3, [.bx [iC q.kind, sC q.key, sC q.val, sC q.range.lo, sC q.range.hi, iC q.most, bC q.back]])]) (by kernel_rfl) ?_
          refine ao_nil ?_
          refine a_cond (b := !(eqRange p.range q.range)) (by kernel_rfl) (fun h4 => ?_) (fun h4 => ?_)
          · have g4 := h4
            try simp only [decide_eq_true_eq, decide_eq_false_iff_not, List.length_map, bne_iff_ne, bne_eq_false_iff_eq, beq_iff_eq, beq_eq_false_iff_ne, Bool.not_eq_true, Bool.not_eq_false, Bool.not_eq_true'] at g4
            refine a_seq ?_
            refine a_run [4] tyOK (st1 := mk 36 [(4, bV false)] []) (by kernel_rfl) ?_
            refine a_ret ?_
            have e : eqAsk p q = false := by rw [eqAsk]; rw [h1, cond_false, h2, cond_false, h3, cond_false, h4, cond_true]
            exact end_eq (res' := bV false) (by kernel_rfl) (by rw [e])
          · have g4 := h4
            try simp only [decide_eq_true_eq, decide_eq_false_iff_not, List.length_map, bne_iff_ne, bne_eq_false_iff_eq, beq_iff_eq, beq_eq_false_iff_ne, Bool.not_eq_true, Bool.not_eq_false, Bool.not_eq_true'] at g4
            refine a_skip ?_
            refine a_seq ?_
            refine a_seq ?_
            refine a_run [2, 3, 30] tyOK (st1 := mk 36 [(2, .one (.pl [(2, 0)] 0 0)), (3, .one (.pl [(3, 0)] 0 0)), (30, bV ((p.most != q.most)))] [(2, [.bx [iC p.kind, sC p.key, sC p.val, sC p.range.lo, sC p.range.hi, iC p.most, bC p.back]]), (3, [.bx [iC q.kind, sC q.key, sC q.val, sC q.range.lo, sC q.range.hi, iC q.most, bC q.back]])]) (by kernel_rfl) ?_
            refine a_cond (b := (p.most != q.most)) (by kernel_rfl) (fun h5 => ?_) (fun h5 => ?_)
            · have g5 := h5
              try simp only [decide_eq_true_eq, decide_eq_false_iff_not, List.length_map, bne_iff_ne, bne_eq_false_iff_eq, beq_iff_eq, beq_eq_false_iff_ne, Bool.not_eq_true, Bool.not_eq_false, Bool.not_eq_true'] at g5
              refine a_seq ?_
              refine a_run [4] tyOK (st1 := mk 36 [(4, bV false)] []) (by kernel_rfl) ?_
              refine a_ret ?_
              have e : eqAsk p q = false := by rw [eqAsk]; rw [h1, cond_false, h2, cond_false, h3, cond_false, h4, cond_false, h5, cond_true]
              exact end_eq (res' := bV false) (by kernel_rfl) (by rw [e])
            · have g5 := h5
              try simp only [decide_eq_true_eq, decide_eq_false_iff_not, List.length_map, bne_iff_ne, bne_eq_false_iff_eq, beq_iff_eq, beq_eq_false_iff_ne, Bool.not_eq_true, Bool.not_eq_false, Bool.not_eq_true'] at g5
              refine a_skip ?_
              refine a_seq ?_
              refine a_seq ?_
              refine a_run [35] tyOK (st1 := mk 36 [(35, bV (!(p.back == q.back)))] []) (by kernel_rfl) ?_
              refine a_cond (b := !(p.back == q.back)) (by kernel_rfl) (fun h6 => ?_) (fun h6 => ?_)
              · have g6 := h6
                try simp only [decide_eq_true_eq, decide_eq_false_iff_not, List.length_map, bne_iff_ne, bne_eq_false_iff_eq, beq_iff_eq, beq_eq_false_iff_ne, Bool.not_eq_true, Bool.not_eq_false, Bool.not_eq_true'] at g6
                refine a_seq ?_
                refine a_run [4] tyOK (st1 := mk 36 [(4, bV false)] []) (by kernel_rfl) ?_
                refine a_ret ?_
                have e : eqAsk p q = false := by rw [eqAsk]; rw [h1, cond_false, h2, cond_false, h3, cond_false, h4, cond_false, h5, cond_false, h6, cond_true]
                exact end_eq (res' := bV false) (by kernel_rfl) (by rw [e])
              · have g6 := h6
                try simp only [decide_eq_true_eq, decide_eq_false_iff_not, List.length_map, bne_iff_ne, bne_eq_false_iff_eq, beq_iff_eq, beq_eq_false_iff_ne, Bool.not_eq_true, Bool.not_eq_false, Bool.not_eq_true'] at g6
                refine a_skip ?_
                refine a_seq ?_
                refine a_run [4] tyOK (st1 := mk 36 [(4, bV true)] []) (by kernel_rfl) ?_
                refine a_ret ?_
                have e : eqAsk p q = true := by rw [eqAsk]; rw [h1, cond_false, h2, cond_false, h3, cond_false, h4, cond_false, h5, cond_false, h6, cond_false]
                exact end_eq (res' := bV true) (by kernel_rfl) (by rw [e])

def eqPairS (xs ys : List Pair) : Bool := eqL eqPair xs ys
structure L13_1 (xs : (List Pair)) (ys : (List Pair)) where
  k : Nat
  inv : k ≤ xs.length ∧ xs.length = ys.length ∧ eqL eqPair (xs.drop k) (ys.drop k) = eqL eqPair xs ys

/-- laws.eqPairS -/
theorem ok13 (xs : (List Pair)) (ys : (List Pair)) (hn : xs.length < 9223372036854775808) : CallOK Try.prog 13 [.one (.c (.sl 2 ((xs).map ePair))), .one (.c (.sl 2 ((ys).map ePair)))] (bV (eqPairS xs ys)) [] :=
  callOK tyOK Try.func13 rfl fun w S hS => by
    refine a_seq ?_
    refine a_run [0, 1] tyOK (st1 := mk 27 [(0, .one (.c (.sl 2 ((xs).map ePair)))), (1, .one (.c (.sl 2 ((ys).map ePair))))] []) (by kernel_rfl) ?_
    refine a_seq ?_
    refine a_seq ?_
    refine a_run [0, 1, 10] tyOK (st1 := mk 27 [(0, .one (.c (.sl 2 ((xs).map ePair)))), (1, .one (.c (.sl 2 ((ys).map ePair)))), (10, bV (((((((xs).map ePair).length : Nat) : Int)) != (((((ys).map ePair).length : Nat) : Int)))))] []) (by kernel_rfl) ?_
    refine a_cond (b := ((((((xs).map ePair).length : Nat) : Int)) != (((((ys).map ePair).length : Nat) : Int)))) (by kernel_rfl) (fun h1 => ?_) (fun h1 => ?_)
    · have g1 := h1
      try simp only [decide_eq_true_eq, decide_eq_false_iff_not, List.length_map, bne_iff_ne, bne_eq_false_iff_eq, beq_iff_eq, beq_eq_false_iff_ne, Bool.not_eq_true, Bool.not_eq_false, Bool.not_eq_true'] at g1
      refine a_seq ?_
      refine a_run [4] tyOK (st1 := mk 27 [(4, bV false)] []) (by kernel_rfl) ?_
      refine a_ret ?_
      have e : eqPairS xs ys = false := by
          rw [eqPairS, eqL_len (by omega)]
      exact end_eq (res' := bV false) (by kernel_rfl) (by rw [e])
    · have g1 := h1
      try simp only [decide_eq_true_eq, decide_eq_false_iff_not, List.length_map, bne_iff_ne, bne_eq_false_iff_eq, beq_iff_eq, beq_eq_false_iff_ne, Bool.not_eq_true, Bool.not_eq_false, Bool.not_eq_true'] at g1
      refine a_skip ?_
      refine a_seq ?_
      refine a_seq ?_
      refine a_run [0, 1, 5] tyOK (st1 := mk 27 [(0, .one (.c (.sl 2 ((xs).map ePair)))), (1, .one (.c (.sl 2 ((ys).map ePair)))), (5, iV 0)] []) (by kernel_rfl) ?_
      refine a_block ?_
      refine a_keep [0, 1, 5] ?_
      refine a_loop (ι := L13_1 xs ys) (fun ⟨k, _⟩ => mk 27 [(0, .one (.c (.sl 2 ((xs).map ePair)))), (1, .one (.c (.sl 2 ((ys).map ePair)))), (5, iV (((k : Nat) : Int)))] []) (fun ⟨k, _⟩ => xs.length - k) ⟨0, Nat.zero_le _, by omega, rfl⟩ (by kernel_rfl) ?_
      rintro ⟨k, hI⟩
      obtain ⟨hk, hE, hR⟩ := hI
      show AWp _ _ _ _ (mk 27 [(0, .one (.c (.sl 2 ((xs).map ePair)))), (1, .one (.c (.sl 2 ((ys).map ePair)))), (5, iV (((k : Nat) : Int)))] [])
      refine a_seq ?_
      refine a_seq ?_
      refine a_run [0, 1, 5, 14] tyOK (st1 := mk 27 [(0, .one (.c (.sl 2 ((xs).map ePair)))), (1, .one (.c (.sl 2 ((ys).map ePair)))), (5, iV (((k : Nat) : Int))), (14, bV (decide ((((k : Nat) : Int)) < (((((xs).map ePair).length : Nat) : Int)))))] []) (by kernel_rfl) ?_
      refine a_cond (b := decide ((((k : Nat) : Int)) < (((((xs).map ePair).length : Nat) : Int)))) (by kernel_rfl) (fun h2 => ?_) (fun h2 => ?_)
      · have g2 := h2
        try simp only [decide_eq_true_eq, decide_eq_false_iff_not, List.length_map, bne_iff_ne, bne_eq_false_iff_eq, beq_iff_eq, beq_eq_false_iff_ne, Bool.not_eq_true, Bool.not_eq_false, Bool.not_eq_true'] at g2
        refine a_skip ?_
        refine a_seq ?_
        refine a_block ?_
        refine a_seq ?_
        refine a_mid (mk 27 [(0, .one (.c (.sl 2 ((xs).map ePair)))), (1, .one (.c (.sl 2 ((ys).map ePair)))), (5, iV (((k : Nat) : Int))), (26, bV (!(eqPair ((el xs (((k : Nat) : Int)))) ((el ys (((k : Nat) : Int)))))))] []) ?_ ?_
        · refine a_drawn (n := 10) [] (by kernel_rfl) (by kernel_rfl) ?_
          refine aa_take (fuel := 6) (listed' := #[true, true, false, false, true, true, false, false, false, false]) (st' := mk 27 [(0, .one (.c (.sl 2 ((xs).map ePair)))), (1, .one (.c (.sl 2 ((ys).map ePair)))), (5, iV (((k : Nat) : Int))), (17, .one (.c (.sl 2 ((xs).map ePair)))), (18, iV (((k : Nat) : Int))), (21, .one (.c (.sl 2 ((ys).map ePair)))), (22, iV (((k : Nat) : Int)))] []) [0, 1, 4, 5] [0, 1, 5, 17, 18, 21, 22] tyOK (by kernel_rfl) (by kernel_rfl) (by kernel_rfl) ?_
          have p1 : 0 ≤ (((k : Nat) : Int)) ∧ (((k : Nat) : Int)).toNat < (xs).length := by first | omega | (rw [mv_wrap (by omega) (by omega)]; omega)
          have q1 := el_get p1.2
          have r1 := q1
          try simp only [Int.toNat_natCast] at r1
          refine aa_index (i := 2) (d := 19) (size := 2) (n := ((k : Nat) : Int)) (rows := (xs).map ePair) (listed' := #[true, true, true, false, true, true, false, false, false, false]) (st1 := mk 27 [(0, .one (.c (.sl 2 ((xs).map ePair)))), (1, .one (.c (.sl 2 ((ys).map ePair)))), (5, iV (((k : Nat) : Int))), (19, .one (.fp [sC (((el xs (((k : Nat) : Int)))).k), sC (((el xs (((k : Nat) : Int)))).v)] 0)), (21, .one (.c (.sl 2 ((ys).map ePair)))), (22, iV (((k : Nat) : Int)))] []) (ePair (el xs (((k : Nat) : Int)))) [0, 1, 5, 19, 21, 22] tyOK (by kernel_rfl) (by kernel_rfl) p1.1 (by rw [List.getElem?_map, q1]; rfl) (by kernel_rfl) (by kernel_rfl) (by kernel_rfl) (by kernel_rfl) ?_
          refine aa_take (fuel := 4) (listed' := #[true, true, true, true, true, true, false, false, false, false]) (st' := mk 27 [(0, .one (.c (.sl 2 ((xs).map ePair)))), (1, .one (.c (.sl 2 ((ys).map ePair)))), (5, iV (((k : Nat) : Int))), (20, .agg [.c (sC (((el xs (((k : Nat) : Int)))).k)), .c (sC (((el xs (((k : Nat) : Int)))).v))]), (21, .one (.c (.sl 2 ((ys).map ePair)))), (22, iV (((k : Nat) : Int)))] []) [3] [0, 1, 5, 20, 21, 22] tyOK (by kernel_rfl) (by kernel_rfl) (by kernel_rfl) ?_
          have p2 : 0 ≤ (((k : Nat) : Int)) ∧ (((k : Nat) : Int)).toNat < (ys).length := by first | omega | (rw [mv_wrap (by omega) (by omega)]; omega)
          have q2 := el_get p2.2
          have r2 := q2
          try simp only [Int.toNat_natCast] at r2
          refine aa_index (i := 6) (d := 23) (size := 2) (n := ((k : Nat) : Int)) (rows := (ys).map ePair) (listed' := #[true, true, true, true, true, true, true, false, false, false]) (st1 := mk 27 [(0, .one (.c (.sl 2 ((xs).map ePair)))), (1, .one (.c (.sl 2 ((ys).map ePair)))), (5, iV (((k : Nat) : Int))), (20, .agg [.c (sC (((el xs (((k : Nat) : Int)))).k)), .c (sC (((el xs (((k : Nat) : Int)))).v))]), (23, .one (.fp [sC (((el ys (((k : Nat) : Int)))).k), sC (((el ys (((k : Nat) : Int)))).v)] 0))] []) (ePair (el ys (((k : Nat) : Int)))) [0, 1, 5, 20, 23] tyOK (by kernel_rfl) (by kernel_rfl) p2.1 (by rw [List.getElem?_map, q2]; rfl) (by kernel_rfl) (by kernel_rfl) (by kernel_rfl) (by kernel_rfl) ?_
          refine aa_take (fuel := 2) (listed' := #[true, true, true, true, true, true, true, true, false, false]) (st' := mk 27 [(0, .one (.c (.sl 2 ((xs).map ePair)))), (1, .one (.c (.sl 2 ((ys).map ePair)))), (5, iV (((k : Nat) : Int))), (20, .agg [.c (sC (((el xs (((k : Nat) : Int)))).k)), .c (sC (((el xs (((k : Nat) : Int)))).v))]), (24, .agg [.c (sC (((el ys (((k : Nat) : Int)))).k)), .c (sC (((el ys (((k : Nat) : Int)))).v))])] []) [7] [0, 1, 5, 20, 24] tyOK (by kernel_rfl) (by kernel_rfl) (by kernel_rfl) ?_
          refine aa_all [8] (by kernel_rfl) rfl ?_
          refine aa_cons ?_ aa_nil
          refine aone_enter (listed' := #[true, true, true, true, true, true, true, true, true, false]) (f := 47) (d := 25) (A := [.agg [.c (sC (((el xs (((k : Nat) : Int)))).k)), .c (sC (((el xs (((k : Nat) : Int)))).v))], .agg [.c (sC (((el ys (((k : Nat) : Int)))).k)), .c (sC (((el ys (((k : Nat) : Int)))).v))]]) (st1 := mk 27 [(0, .one (.c (.sl 2 ((xs).map ePair)))), (1, .one (.c (.sl 2 ((ys).map ePair)))), (5, iV (((k : Nat) : Int))), (25, bV (eqPair ((el xs (((k : Nat) : Int)))) ((el ys (((k : Nat) : Int))))))] []) [0, 1, 5, 25] (ok47 ((el xs (((k : Nat) : Int)))) ((el ys (((k : Nat) : Int))))) Try.call47 (by kernel_rfl) (by kernel_rfl) (by kernel_rfl) (by kernel_rfl) ?_
          refine aa_take (fuel := 0) (listed' := #[true, true, true, true, true, true, true, true, true, true]) (st' := mk 27 [(0, .one (.c (.sl 2 ((xs).map ePair)))), (1, .one (.c (.sl 2 ((ys).map ePair)))), (5, iV (((k : Nat) : Int))), (26, bV (!(eqPair ((el xs (((k : Nat) : Int)))) ((el ys (((k : Nat) : Int)))))))] []) [9] [0, 1, 5, 26] tyOK (by kernel_rfl) (by kernel_rfl) (by kernel_rfl) ?_
          refine aa_done (by kernel_rfl) ?_
          show _ = _; kernel_rfl
        refine a_cond (b := !(eqPair ((el xs (((k : Nat) : Int)))) ((el ys (((k : Nat) : Int)))))) (by kernel_rfl) (fun h3 => ?_) (fun h3 => ?_)
        · have g3 := h3
          try simp only [decide_eq_true_eq, decide_eq_false_iff_not, List.length_map, bne_iff_ne, bne_eq_false_iff_eq, beq_iff_eq, beq_eq_false_iff_ne, Bool.not_eq_true, Bool.not_eq_false, Bool.not_eq_true'] at g3
          refine a_seq ?_
          refine a_run [4] tyOK (st1 := mk 27 [(4, bV false)] []) (by kernel_rfl) ?_
          refine a_ret ?_
          have e : eqPairS xs ys = false := by
              rw [eqPairS, ← hR, eqL_step (by omega) (by omega), if_neg (by simpa using h3)]
          exact end_eq (res' := bV false) (by kernel_rfl) (by rw [e])
        · have g3 := h3
          try simp only [decide_eq_true_eq, decide_eq_false_iff_not, List.length_map, bne_iff_ne, bne_eq_false_iff_eq, beq_iff_eq, beq_eq_false_iff_ne, Bool.not_eq_true, Bool.not_eq_false, Bool.not_eq_true'] at g3
          refine a_skip ?_
          refine a_run [0, 1, 5] tyOK (st1 := mk 27 [(0, .one (.c (.sl 2 ((xs).map ePair)))), (1, .one (.c (.sl 2 ((ys).map ePair)))), (5, iV (IntKind.wrap .i64 ((((k : Nat) : Int)) + 1)))] []) (by kernel_rfl) ?_
          refine ⟨⟨(k + 1), ?_⟩, ?_, ?_⟩
          · exact ⟨by omega, hE, by rw [← hR, eqL_step (k := k) (by omega) (by omega), if_pos (by simpa using h3)]⟩
          · exact (show _ = mk 27 [(0, .one (.c (.sl 2 ((xs).map ePair)))), (1, .one (.c (.sl 2 ((ys).map ePair)))), (5, iV (IntKind.wrap .i64 ((((k : Nat) : Int)) + 1)))] [] by kernel_rfl).trans (by rw [mv_wrap (by omega) (by omega)]; rfl)
          · dsimp only; omega
      · have g2 := h2
        try simp only [decide_eq_true_eq, decide_eq_false_iff_not, List.length_map, bne_iff_ne, bne_eq_false_iff_eq, beq_iff_eq, beq_eq_false_iff_ne, Bool.not_eq_true, Bool.not_eq_false, Bool.not_eq_true'] at g2
        refine a_exit ?_
        refine a_seq ?_
        refine a_run [4] tyOK (st1 := mk 27 [(4, bV true)] []) (by kernel_rfl) ?_
        refine a_ret ?_
        have e : eqPairS xs ys = true := by
            rw [eqPairS, ← hR, List.drop_eq_nil_of_le (by omega), List.drop_eq_nil_of_le (by omega), eqL]
        exact end_eq (res' := bV true) (by kernel_rfl) (by rw [e])


def eqReply (p : Reply) (q : Reply) : Bool := bif ((p.kind != q.kind)) then false else (bif (!(eqTx p.tx q.tx)) then false else (bif (!(eqAsk p.ask q.ask)) then false else (bif ((p.code != q.code)) then false else (bif (!(eqPairS p.pairs q.pairs)) then false else true))))
/-- laws.eqReply -/
theorem ok26 (p : Reply) (q : Reply) (hp : okReply p) : CallOK Try.prog 26 [.agg [.c (iC p.kind), .c (iC p.tx.c), .c (iC p.tx.e), .c (iC p.tx.n), .c (iC p.ask.kind), .c (sC p.ask.key), .c (sC p.ask.val), .c (sC p.ask.range.lo), .c (sC p.ask.range.hi), .c (iC p.ask.most), .c (bC p.ask.back), .c (iC p.code), .c (.sl 2 ((p.pairs).map ePair))], .agg [.c (iC q.kind), .c (iC q.tx.c), .c (iC q.tx.e), .c (iC q.tx.n), .c (iC q.ask.kind), .c (sC q.ask.key), .c (sC q.ask.val), .c (sC q.ask.range.lo), .c (sC q.ask.range.hi), .c (iC q.ask.most), .c (bC q.ask.back), .c (iC q.code), .c (.sl 2 ((q.pairs).map ePair))]] (bV (eqReply p q)) [] :=
  callOK tyOK Try.func26 rfl fun w S hS => by
    refine a_seq ?_
    refine a_run [2, 3] tyOK (st1 := mk 33 [(2, .one (.pl [(2, 0)] 0 0)), (3, .one (.pl [(3, 0)] 0 0))] [(2, [.bx [iC p.kind, iC p.tx.c, iC p.tx.e, iC p.tx.n, iC p.ask.kind, sC p.ask.key, sC p.ask.val, sC p.ask.range.lo, sC p.ask.range.hi, iC p.ask.most, bC p.ask.back, iC p.code, .fz (.sl 2 ((p.pairs).map ePair))]]), (3, [.bx [iC q.kind, iC q.tx.c, iC q.tx.e, iC q.tx.n, iC q.ask.kind, sC q.ask.key, sC q.ask.val, sC q.ask.range.lo, sC q.ask.range.hi, iC q.ask.most, bC q.ask.back, iC q.code, .fz (.sl 2 ((q.pairs).map ePair))]])]) (by kernel_rfl) ?_
    refine a_seq ?_
    refine a_seq ?_
    refine a_run [2, 3, 9] tyOK (st1 := mk 33 [(2, .one (.pl [(2, 0)] 0 0)), (3, .one (.pl [(3, 0)] 0 0)), (9, bV ((p.kind != q.kind)))] [(2, [.bx [iC p.kind, iC p.tx.c, iC p.tx.e, iC p.tx.n, iC p.ask.kind, sC p.ask.key, sC p.ask.val, sC p.ask.range.lo, sC p.ask.range.hi, iC p.ask.most, bC p.ask.back, iC p.code, .fz (.sl 2 ((p.pairs).map ePair))]]), (3, [.bx [iC q.kind, iC q.tx.c, iC q.tx.e, iC q.tx.n, iC q.ask.kind, sC q.ask.key, sC q.ask.val, sC q.ask.range.lo, sC q.ask.range.hi, iC q.ask.most, bC q.ask.back, iC q.code, .fz (.sl 2 ((q.pairs).map ePair))]])]) (by kernel_rfl) ?_
    refine a_cond (b := (p.kind != q.kind)) (by kernel_rfl) (fun h1 => ?_) (fun h1 => ?_)
    · have g1 := h1
      try simp only [decide_eq_true_eq, decide_eq_false_iff_not, List.length_map, bne_iff_ne, bne_eq_false_iff_eq, beq_iff_eq, beq_eq_false_iff_ne, Bool.not_eq_true, Bool.not_eq_false, Bool.not_eq_true'] at g1
      refine a_seq ?_
      refine a_run [4] tyOK (st1 := mk 33 [(4, bV false)] []) (by kernel_rfl) ?_
      refine a_ret ?_
      have e : eqReply p q = false := by rw [eqReply]; rw [h1, cond_true]
      exact end_eq (res' := bV false) (by kernel_rfl) (by rw [e])
    · have g1 := h1
      try simp only [decide_eq_true_eq, decide_eq_false_iff_not, List.length_map, bne_iff_ne, bne_eq_false_iff_eq, beq_iff_eq, beq_eq_false_iff_ne, Bool.not_eq_true, Bool.not_eq_false, Bool.not_eq_true'] at g1
      refine a_skip ?_
      refine a_seq ?_
      refine a_seq ?_
      refine a_ops [0, 1, 2, 3, 4, 5] (by kernel_rfl) ?_
      refine ao_some [0, 1, 2, 3] [4, 5] [2, 3, 11, 13] tyOK (st1 := mk 33 [(2, .one (.pl [(2, 0)] 0 0)), (3, .one (.pl [(3, 0)] 0 0)), (11, .agg [.c (iC p.tx.c), .c (iC p.tx.e), .c (iC p.tx.n)]), (13, .agg [.c (iC q.tx.c), .c (iC q.tx.e), .c (iC q.tx.n)])] [(2, [.bx [iC p.kind, iC p.tx.c, iC p.tx.e, iC p.tx.n, iC p.ask.kind, sC p.ask.key, sC p.ask.val, sC p.ask.range.lo, sC p.ask.range.hi, iC p.ask.most, bC p.ask.back, iC p.code, .fz (.sl 2 ((p.pairs).map ePair))]]), (3, [.bx [iC q.kind, iC q.tx.c, iC q.tx.e, iC q.tx.n, iC q.ask.kind, sC q.ask.key, sC q.ask.val, sC q.ask.range.lo, sC q.ask.range.hi, iC q.ask.most, bC q.ask.back, iC q.code, .fz (.sl 2 ((q.pairs).map ePair))]])]) (by kernel_rfl) ?_
      refine ao_enter (f := 56) (d := 14) (A := [.agg [.c (iC p.tx.c), .c (iC p.tx.e), .c (iC p.tx.n)], .agg [.c (iC q.tx.c), .c (iC q.tx.e), .c (iC q.tx.n)]]) (st1 := mk 33 [(2, .one (.pl [(2, 0)] 0 0)), (3, .one (.pl [(3, 0)] 0 0)), (14, bV (eqTx p.tx q.tx))] [(2, [.bx [iC p.kind, iC p.tx.c, iC p.tx.e, iC p.tx.n, iC p.ask.kind, sC p.ask.key, sC p.ask.val, sC p.ask.range.lo, sC p.ask.range.hi, iC p.ask.most, bC p.ask.back, iC p.code, .fz (.sl 2 ((p.pairs).map ePair))]]), (3, [.bx [iC q.kind, iC q.tx.c, iC q.tx.e, iC q.tx.n, iC q.ask.kind, sC q.ask.key, sC q.ask.val, sC q.ask.range.lo, sC q.ask.range.hi, iC q.ask.most, bC q.ask.back, iC q.code, .fz (.sl 2 ((q.pairs).map ePair))]])]) [2, 3, 14] (ok56 p.tx q.tx) Try.call56 (by kernel_rfl) (by kernel_rfl) (by kernel_rfl) ?_
      refine ao_some [5] [] [2, 3, 15] tyOK (st1 := mk 33 [(2, .one (.pl [(2, 0)] 0 0)), (3, .one (.pl [(3, 0)] 0 0)), (15, bV (!(eqTx p.tx q.tx)))] [(2, [.bx [iC p.kind, iC p.tx.c, iC p.tx.e, iC p.tx.n, iC p.ask.kind, sC p.ask.key, sC p.ask.val, sC p.ask.range.lo, sC p.ask.range.hi, iC p.ask.most, bC p.ask.back, iC p.code, .fz (.sl 2 ((p.pairs).map ePair))]]), (3, [.bx [iC q.kind, iC q.tx.c, iC q.tx.e, iC q.tx.n, iC q.ask.kind, sC q.ask.key, sC q.ask.val, sC q.ask.range.lo, sC q.ask.range.hi, iC q.ask.most, bC q.ask.back, iC q.code, .fz (.sl 2 ((q.pairs).map ePair))]])]) (by kernel_rfl) ?_
      refine ao_nil ?_
      refine a_cond (b := !(eqTx p.tx q.tx)) (by kernel_rfl) (fun h2 => ?_) (fun h2 => ?_)
      · have g2 := h2
        try simp only [decide_eq_true_eq, decide_eq_false_iff_not, List.length_map, bne_iff_ne, bne_eq_false_iff_eq, beq_iff_eq, beq_eq_false_iff_ne, Bool.not_eq_true, Bool.not_eq_false, Bool.not_eq_true'] at g2
        refine a_seq ?_
        refine a_run [4] tyOK (st1 := mk 33 [(4, bV false)] []) (by kernel_rfl) ?_
        refine a_ret ?_
        have e : eqReply p q = false := by rw [eqReply]; rw [h1, cond_false, h2, cond_true]
        exact end_eq (res' := bV false) (by kernel_rfl) (by rw [e])
      · have g2 := h2
        try simp only [decide_eq_true_eq, decide_eq_false_iff_not, List.length_map, bne_iff_ne, bne_eq_false_iff_eq, beq_iff_eq, beq_eq_false_iff_ne, Bool.not_eq_true, Bool.not_eq_false, Bool.not_eq_true'] at g2
        refine a_skip ?_
        refine a_seq ?_
        refine a_seq ?_
        refine a_ops [0, 1, 2, 3, 4, 5] (by kernel_rfl) ?_
        refine ao_some [0, 1, 2, 3] [4, 5] [2, 3, 17, 19] tyOK (st1 := mk 33 [(2, .one (.pl [(2, 0)] 0 0)), (3, .one (.pl [(3, 0)] 0 0)), (17, .agg [.c (iC p.ask.kind), .c (sC p.ask.key), .c (sC p.ask.val), .c (sC p.ask.range.lo), .c (sC p.ask.range.hi), .c (iC p.ask.most), .c (bC p.ask.back)]), (19, .agg [.c (iC q.ask.kind), .c (sC q.ask.key), .c (sC q.ask.val), .c (sC q.ask.range.lo), .c (sC q.ask.range.hi), .c (iC q.ask.most), .c (bC q.ask.back)])] [(2, [.bx [iC p.kind, iC p.tx.c, iC p.tx.e, iC p.tx.n, iC p.ask.kind, sC p.ask.key, sC p.ask.val, sC p.ask.range.lo, sC p.ask.range.hi, iC p.ask.most, bC p.ask.back, iC p.code, .fz (.sl 2 ((p.pairs).map ePair))]]), (3, [.bx [iC q.kind, iC q.tx.c, iC q.tx.e, iC q.tx.n, iC q.ask.kind, sC q.ask.key, sC q.ask.val, sC q.ask.range.lo, sC q.ask.range.hi, iC q.ask.most, bC q.ask.back, iC q.code, .fz (.sl 2 ((q.pairs).map ePair))]])]) (by kernel_rfl) ?_
        refine ao_enter (f := 57) (d := 20) (A := [.agg [.c (iC p.ask.kind), .c (sC p.ask.key), .c (sC p.ask.val), .c (sC p.ask.range.lo), .c (sC p.ask.range.hi), .c (iC p.ask.most), .c (bC p.ask.back)], .agg [.c (iC q.ask.kind), .c (sC q.ask.key), .c (sC q.ask.val), .c (sC q.ask.range.lo), .c (sC q.ask.range.hi), .c (iC q.ask.most), .c (bC q.ask.back)]]) (st1 := mk 33 [(2, .one (.pl [(2, 0)] 0 0)), (3, .one (.pl [(3, 0)] 0 0)), (20, bV (eqAsk p.ask q.ask))] [(2, [.bx [iC p.kind, iC p.tx.c, iC p.tx.e, iC p.tx.n, iC p.ask.kind, sC p.ask.key, sC p.ask.val, sC p.ask.range.lo, sC p.ask.range.hi, iC p.ask.most, bC p.ask.back, iC p.code, .fz (.sl 2 ((p.pairs).map ePair))]]), (3, [.bx [iC q.kind, iC q.tx.c, iC q.tx.e, iC q.tx.n, iC q.ask.kind, sC q.ask.key, sC q.ask.val, sC q.ask.range.lo, sC q.ask.range.hi, iC q.ask.most, bC q.ask.back, iC q.code, .fz (.sl 2 ((q.pairs).map ePair))]])]) [2, 3, 20] (ok57 p.ask q.ask) Try.call57 (by kernel_rfl) (by kernel_rfl) (by kernel_rfl) ?_
        refine ao_some [5] [] [2, 3, 21] tyOK (st1 := mk 33 [(2, .one (.pl [(2, 0)] 0 0)), (3, .one (.pl [(3, 0)] 0 0)), (21, bV (!(eqAsk p.ask q.ask)))] [(2, [.bx [iC p.kind, iC p.tx.c, iC p.tx.e, iC p.tx.n, iC p.ask.kind, sC p.ask.key, sC p.ask.val, sC p.ask.range.lo, sC p.ask.range.hi, iC p.ask.most, bC p.ask.back, iC p.code, .fz (.sl 2 ((p.pairs).map ePair))]]), (3, [.bx [iC q.kind, iC q.tx.c, iC q.tx.e, iC q.tx.n, iC q.ask.kind, sC q.ask.key, sC q.ask.val, sC q.ask.range.lo, sC q.ask.range.hi, iC q.ask.most, bC q.ask.back, iC q.code, .fz (.sl 2 ((q.pairs).map ePair))]])]) (by kernel_rfl) ?_
        refine ao_nil ?_
        refine a_cond (b := !(eqAsk p.ask q.ask)) (by kernel_rfl) (fun h3 => ?_) (fun h3 => ?_)
        · have g3 := h3
          try simp only [decide_eq_true_eq, decide_eq_false_iff_not, List.length_map, bne_iff_ne, bne_eq_false_iff_eq, beq_iff_eq, beq_eq_false_iff_ne, Bool.not_eq_true, Bool.not_eq_false, Bool.not_eq_true'] at g3
          refine a_seq ?_
          refine a_run [4] tyOK (st1 := mk 33 [(4, bV false)] []) (by kernel_rfl) ?_
          refine a_ret ?_
          have e : eqReply p q = false := by rw [eqReply]; rw [h1, cond_false, h2, cond_false, h3, cond_true]
          exact end_eq (res' := bV false) (by kernel_rfl) (by rw [e])
        · have g3 := h3
          try simp only [decide_eq_true_eq, decide_eq_false_iff_not, List.length_map, bne_iff_ne, bne_eq_false_iff_eq, beq_iff_eq, beq_eq_false_iff_ne, Bool.not_eq_true, Bool.not_eq_false, Bool.not_eq_true'] at g3
          refine a_skip ?_
          refine a_seq ?_
          refine a_seq ?_
          refine a_run [2, 3, 26] tyOK (st1 := mk 33 [(2, .one (.pl [(2, 0)] 0 0)), (3, .one (.pl [(3, 0)] 0 0)), (26, bV ((p.code != q.code)))] [(2, [.bx [iC p.kind, iC p.tx.c, iC p.tx.e, iC p.tx.n, iC p.ask.kind, sC p.ask.key, sC p.ask.val, sC p.ask.range.lo, sC p.ask.range.hi, iC p.ask.most, bC p.ask.back, iC p.code, .fz (.sl 2 ((p.pairs).map ePair))]]), (3, [.bx [iC q.kind, iC q.tx.c, iC q.tx.e, iC q.tx.n, iC q.ask.kind, sC q.ask.key, sC q.ask.val, sC q.ask.range.lo, sC q.ask.range.hi, iC q.ask.most, bC q.ask.back, iC q.code, .fz (.sl 2 ((q.pairs).map ePair))]])]) (by kernel_rfl) ?_
          refine a_cond (b := (p.code != q.code)) (by kernel_rfl) (fun h4 => ?_) (fun h4 => ?_)
          · have g4 := h4
            try simp only [decide_eq_true_eq, decide_eq_false_iff_not, List.length_map, bne_iff_ne, bne_eq_false_iff_eq, beq_iff_eq, beq_eq_false_iff_ne, Bool.not_eq_true, Bool.not_eq_false, Bool.not_eq_true'] at g4
            refine a_seq ?_
            refine a_run [4] tyOK (st1 := mk 33 [(4, bV false)] []) (by kernel_rfl) ?_
            refine a_ret ?_
            have e : eqReply p q = false := by rw [eqReply]; rw [h1, cond_false, h2, cond_false, h3, cond_false, h4, cond_true]
            exact end_eq (res' := bV false) (by kernel_rfl) (by rw [e])
          · have g4 := h4
            try simp only [decide_eq_true_eq, decide_eq_false_iff_not, List.length_map, bne_iff_ne, bne_eq_false_iff_eq, beq_iff_eq, beq_eq_false_iff_ne, Bool.not_eq_true, Bool.not_eq_false, Bool.not_eq_true'] at g4
            refine a_skip ?_
            refine a_seq ?_
            refine a_seq ?_
            refine a_ops [0, 1, 2, 3, 4, 5] (by kernel_rfl) ?_
            refine ao_some [0, 1, 2, 3] [4, 5] [28, 30] tyOK (st1 := mk 33 [(28, .one (.c (.sl 2 ((p.pairs).map ePair)))), (30, .one (.c (.sl 2 ((q.pairs).map ePair))))] []) (by kernel_rfl) ?_
            refine ao_enter (f := 13) (d := 31) (A := [.one (.c (.sl 2 ((p.pairs).map ePair))), .one (.c (.sl 2 ((q.pairs).map ePair)))]) (st1 := mk 33 [(31, bV (eqPairS p.pairs q.pairs))] []) [31] (ok13 p.pairs q.pairs (by unfold okReply at hp; omega)) Try.call13 (by kernel_rfl) (by kernel_rfl) (by kernel_rfl) ?_
            refine ao_some [5] [] [32] tyOK (st1 := mk 33 [(32, bV (!(eqPairS p.pairs q.pairs)))] []) (by kernel_rfl) ?_
            refine ao_nil ?_
            refine a_cond (b := !(eqPairS p.pairs q.pairs)) (by kernel_rfl) (fun h5 => ?_) (fun h5 => ?_)
            · have g5 := h5
              try simp only [decide_eq_true_eq, decide_eq_false_iff_not, List.length_map, bne_iff_ne, bne_eq_false_iff_eq, beq_iff_eq, beq_eq_false_iff_ne, Bool.not_eq_true, Bool.not_eq_false, Bool.not_eq_true'] at g5
              refine a_seq ?_
              refine a_run [4] tyOK (st1 := mk 33 [(4, bV false)] []) (by kernel_rfl) ?_
              refine a_ret ?_
              have e : eqReply p q = false := by rw [eqReply]; rw [h1, cond_false, h2, cond_false, h3, cond_false, h4, cond_false, h5, cond_true]
              exact end_eq (res' := bV false) (by kernel_rfl) (by rw [e])
            · have g5 := h5
              try simp only [decide_eq_true_eq, decide_eq_false_iff_not, List.length_map, bne_iff_ne, bne_eq_false_iff_eq, beq_iff_eq, beq_eq_false_iff_ne, Bool.not_eq_true, Bool.not_eq_false, Bool.not_eq_true'] at g5
              refine a_skip ?_
              refine a_seq ?_
              refine a_run [4] tyOK (st1 := mk 33 [(4, bV true)] []) (by kernel_rfl) ?_
              refine a_ret ?_
              have e : eqReply p q = true := by rw [eqReply]; rw [h1, cond_false, h2, cond_false, h3, cond_false, h4, cond_false, h5, cond_false]
              exact end_eq (res' := bV true) (by kernel_rfl) (by rw [e])

def eqReplyS (xs ys : List Reply) : Bool := eqL eqReply xs ys
structure L19_1 (xs : (List Reply)) (ys : (List Reply)) where
  k : Nat
  inv : k ≤ xs.length ∧ xs.length = ys.length ∧ eqL eqReply (xs.drop k) (ys.drop k) = eqL eqReply xs ys

/-- laws.eqReplyS -/
theorem ok19 (xs : (List Reply)) (ys : (List Reply)) (hn : xs.length < 9223372036854775808) (hok : ∀ x ∈ xs, okReply x) : CallOK Try.prog 19 [.one (.c (.sl 13 ((xs).map eReply))), .one (.c (.sl 13 ((ys).map eReply)))] (bV (eqReplyS xs ys)) [] :=
  callOK tyOK Try.func19 rfl fun w S hS => by
    refine a_seq ?_
    refine a_run [0, 1] tyOK (st1 := mk 27 [(0, .one (.c (.sl 13 ((xs).map eReply)))), (1, .one (.c (.sl 13 ((ys).map eReply))))] []) (by kernel_rfl) ?_
    refine a_seq ?_
    refine a_seq ?_
    refine a_run [0, 1, 10] tyOK (st1 := mk 27 [(0, .one (.c (.sl 13 ((xs).map eReply)))), (1, .one (.c (.sl 13 ((ys).map eReply)))), (10, bV (((((((xs).map eReply).length : Nat) : Int)) != (((((ys).map eReply).length : Nat) : Int)))))] []) (by kernel_rfl) ?_
    refine a_cond (b := ((((((xs).map eReply).length : Nat) : Int)) != (((((ys).map eReply).length : Nat) : Int)))) (by kernel_rfl) (fun h1 => ?_) (fun h1 => ?_)
    · have g1 := h1
      try simp only [decide_eq_true_eq, decide_eq_false_iff_not, List.length_map, bne_iff_ne, bne_eq_false_iff_eq, beq_iff_eq, beq_eq_false_iff_ne, Bool.not_eq_true, Bool.not_eq_false, Bool.not_eq_true'] at g1
      refine a_seq ?_
      refine a_run [4] tyOK (st1 := mk 27 [(4, bV false)] []) (by kernel_rfl) ?_
      refine a_ret ?_
      have e : eqReplyS xs ys = false := by
          rw [eqReplyS, eqL_len (by omega)]
      exact end_eq (res' := bV false) (by kernel_rfl) (by rw [e])
    · have g1 := h1
      try simp only [decide_eq_true_eq, decide_eq_false_iff_not, List.length_map, bne_iff_ne, bne_eq_false_iff_eq, beq_iff_eq, beq_eq_false_iff_ne, Bool.not_eq_true, Bool.not_eq_false, Bool.not_eq_true'] at g1
      refine a_skip ?_
      refine a_seq ?_
      refine a_seq ?_
      refine a_run [0, 1, 5] tyOK (st1 := mk 27 [(0, .one (.c (.sl 13 ((xs).map eReply)))), (1, .one (.c (.sl 13 ((ys).map eReply)))), (5, iV 0)] []) (by kernel_rfl) ?_
      refine a_block ?_
      refine a_keep [0, 1, 5] ?_
      refine a_loop (ι := L19_1 xs ys) (fun ⟨k, _⟩ => mk 27 [(0, .one (.c (.sl 13 ((xs).map eReply)))), (1, .one (.c (.sl 13 ((ys).map eReply)))), (5, iV (((k : Nat) : Int)))] []) (fun ⟨k, _⟩ => xs.length - k) ⟨0, Nat.zero_le _, by omega, rfl⟩ (by kernel_rfl) ?_
      rintro ⟨k, hI⟩
      obtain ⟨hk, hE, hR⟩ := hI
      show AWp _ _ _ _ (mk 27 [(0, .one (.c (.sl 13 ((xs).map eReply)))), (1, .one (.c (.sl 13 ((ys).map eReply)))), (5, iV (((k : Nat) : Int)))] [])
      refine a_seq ?_
      refine a_seq ?_
      refine a_run [0, 1, 5, 14] tyOK (st1 := mk 27 [(0, .one (.c (.sl 13 ((xs).map eReply)))), (1, .one (.c (.sl 13 ((ys).map eReply)))), (5, iV (((k : Nat) : Int))), (14, bV (decide ((((k : Nat) : Int)) < (((((xs).map eReply).length : Nat) : Int)))))] []) (by kernel_rfl) ?_
      refine a_cond (b := decide ((((k : Nat) : Int)) < (((((xs).map eReply).length : Nat) : Int)))) (by kernel_rfl) (fun h2 => ?_) (fun h2 => ?_)
      · have g2 := h2
        try simp only [decide_eq_true_eq, decide_eq_false_iff_not, List.length_map, bne_iff_ne, bne_eq_false_iff_eq, beq_iff_eq, beq_eq_false_iff_ne, Bool.not_eq_true, Bool.not_eq_false, Bool.not_eq_true'] at g2
        refine a_skip ?_
        refine a_seq ?_
        refine a_block ?_
        refine a_seq ?_
        refine a_mid (mk 27 [(0, .one (.c (.sl 13 ((xs).map eReply)))), (1, .one (.c (.sl 13 ((ys).map eReply)))), (5, iV (((k : Nat) : Int))), (26, bV (!(eqReply ((el xs (((k : Nat) : Int)))) ((el ys (((k : Nat) : Int)))))))] []) ?_ ?_
        · refine a_drawn (n := 10) [] (by kernel_rfl) (by kernel_rfl) ?_
          refine aa_take (fuel := 6) (listed' := #[true, true, false, false, true, true, false, false, false, false]) (st' := mk 27 [(0, .one (.c (.sl 13 ((xs).map eReply)))), (1, .one (.c (.sl 13 ((ys).map eReply)))), (5, iV (((k : Nat) : Int))), (17, .one (.c (.sl 13 ((xs).map eReply)))), (18, iV (((k : Nat) : Int))), (21, .one (.c (.sl 13 ((ys).map eReply)))), (22, iV (((k : Nat) : Int)))] []) [0, 1, 4, 5] [0, 1, 5, 17, 18, 21, 22] tyOK (by kernel_rfl) (by kernel_rfl) (by kernel_rfl) ?_
          have p1 : 0 ≤ (((k : Nat) : Int)) ∧ (((k : Nat) : Int)).toNat < (xs).length := by first | omega | (rw [mv_wrap (by omega) (by omega)]; omega)
          have q1 := el_get p1.2
          have r1 := q1
          try simp only [Int.toNat_natCast] at r1
          refine aa_index (i := 2) (d := 19) (size := 13) (n := ((k : Nat) : Int)) (rows := (xs).map eReply) (listed' := #[true, true, true, false, true, true, false, false, false, false]) (st1 := mk 27 [(0, .one (.c (.sl 13 ((xs).map eReply)))), (1, .one (.c (.sl 13 ((ys).map eReply)))), (5, iV (((k : Nat) : Int))), (19, .one (.fp [iC (((el xs (((k : Nat) : Int)))).kind), iC ((((el xs (((k : Nat) : Int)))).tx).c), iC ((((el xs (((k : Nat) : Int)))).tx).e), iC ((((el xs (((k : Nat) : Int)))).tx).n), iC ((((el xs (((k : Nat) : Int)))).ask).kind), sC ((((el xs (((k : Nat) : Int)))).ask).key), sC ((((el xs (((k : Nat) : Int)))).ask).val), sC (((((el xs (((k : Nat) : Int)))).ask).range).lo), sC (((((el xs (((k : Nat) : Int)))).ask).range).hi), iC ((((el xs (((k : Nat) : Int)))).ask).most), bC ((((el xs (((k : Nat) : Int)))).ask).back), iC (((el xs (((k : Nat) : Int)))).code), .sl 2 ((((el xs (((k : Nat) : Int)))).pairs).map ePair)] 0)), (21, .one (.c (.sl 13 ((ys).map eReply)))), (22, iV (((k : Nat) : Int)))] []) (eReply (el xs (((k : Nat) : Int)))) [0, 1, 5, 19, 21, 22] tyOK (by kernel_rfl) (by kernel_rfl) p1.1 (by rw [List.getElem?_map, q1]; rfl) (by kernel_rfl) (by kernel_rfl) (by kernel_rfl) (by kernel_rfl) ?_
          refine aa_take (fuel := 4) (listed' := #[true, true, true, true, true, true, false, false, false, false]) (st' := mk 27 [(0, .one (.c (.sl 13 ((xs).map eReply)))), (1, .one (.c (.sl 13 ((ys).map eReply)))), (5, iV (((k : Nat) : Int))), (20, .agg [.c (iC (((el xs (((k : Nat) : Int)))).kind)), .c (iC ((((el xs (((k : Nat) : Int)))).tx).c)), .c (iC ((((el xs (((k : Nat) : Int)))).tx).e)), .c (iC ((((el xs (((k : Nat) : Int)))).tx).n)), .c (iC ((((el xs (((k : Nat) : Int)))).ask).kind)), .c (sC ((((el xs (((k : Nat) : Int)))).ask).key)), .c (sC ((((el xs (((k : Nat) : Int)))).ask).val)), .c (sC (((((el xs (((k : Nat) : Int)))).ask).range).lo)), .c (sC (((((el xs (((k : Nat) : Int)))).ask).range).hi)), .c (iC ((((el xs (((k : Nat) : Int)))).ask).most)), .c (bC ((((el xs (((k : Nat) : Int)))).ask).back)), .c (iC (((el xs (((k : Nat) : Int)))).code)), .c (.sl 2 ((((el xs (((k : Nat) : Int)))).pairs).map ePair))]), (21, .one (.c (.sl 13 ((ys).map eReply)))), (22, iV (((k : Nat) : Int)))] []) [3] [0, 1, 5, 20, 21, 22] tyOK (by kernel_rfl) (by kernel_rfl) (by kernel_rfl) ?_
          have p2 : 0 ≤ (((k : Nat) : Int)) ∧ (((k : Nat) : Int)).toNat < (ys).length := by first | omega | (rw [mv_wrap (by omega) (by omega)]; omega)
          have q2 := el_get p2.2
          have r2 := q2
          try simp only [Int.toNat_natCast] at r2
          refine aa_index (i := 6) (d := 23) (size := 13) (n := ((k : Nat) : Int)) (rows := (ys).map eReply) (listed' := #[true, true, true, true, true, true, true, false, false, false]) (st1 := mk 27 [(0, .one (.c (.sl 13 ((xs).map eReply)))), (1, .one (.c (.sl 13 ((ys).map eReply)))), (5, iV (((k : Nat) : Int))), (20, .agg [.c (iC (((el xs (((k : Nat) : Int)))).kind)), .c (iC ((((el xs (((k : Nat) : Int)))).tx).c)), .c (iC ((((el xs (((k : Nat) : Int)))).tx).e)), .c (iC ((((el xs (((k : Nat) : Int)))).tx).n)), .c (iC ((((el xs (((k : Nat) : Int)))).ask).kind)), .c (sC ((((el xs (((k : Nat) : Int)))).ask).key)), .c (sC ((((el xs (((k : Nat) : Int)))).ask).val)), .c (sC (((((el xs (((k : Nat) : Int)))).ask).range).lo)), .c (sC (((((el xs (((k : Nat) : Int)))).ask).range).hi)), .c (iC ((((el xs (((k : Nat) : Int)))).ask).most)), .c (bC ((((el xs (((k : Nat) : Int)))).ask).back)), .c (iC (((el xs (((k : Nat) : Int)))).code)), .c (.sl 2 ((((el xs (((k : Nat) : Int)))).pairs).map ePair))]), (23, .one (.fp [iC (((el ys (((k : Nat) : Int)))).kind), iC ((((el ys (((k : Nat) : Int)))).tx).c), iC ((((el ys (((k : Nat) : Int)))).tx).e), iC ((((el ys (((k : Nat) : Int)))).tx).n), iC ((((el ys (((k : Nat) : Int)))).ask).kind), sC ((((el ys (((k : Nat) : Int)))).ask).key), sC ((((el ys (((k : Nat) : Int)))).ask).val), sC (((((el ys (((k : Nat) : Int)))).ask).range).lo), sC (((((el ys (((k : Nat) : Int)))).ask).range).hi), iC ((((el ys (((k : Nat) : Int)))).ask).most), bC ((((el ys (((k : Nat) : Int)))).ask).back), iC (((el ys (((k : Nat) : Int)))).code), .sl 2 ((((el ys (((k : Nat) : Int)))).pairs).map ePair)] 0))] []) (eReply (el ys (((k : Nat) : Int)))) [0, 1, 5, 20, 23] tyOK (by kernel_rfl) (by kernel_rfl) p2.1 (by rw [List.getElem?_map, q2]; rfl) (by kernel_rfl) (by kernel_rfl) (by kernel_rfl) (by kernel_rfl) ?_
          refine aa_take (fuel := 2) (listed' := #[true, true, true, true, true, true, true, true, false, false]) (st' := mk 27 [(0, .one (.c (.sl 13 ((xs).map eReply)))), (1, .one (.c (.sl 13 ((ys).map eReply)))), (5, iV (((k : Nat) : Int))), (20, .agg [.c (iC (((el xs (((k : Nat) : Int)))).kind)), .c (iC ((((el xs (((k : Nat) : Int)))).tx).c)), .c (iC ((((el xs (((k : Nat) : Int)))).tx).e)), .c (iC ((((el xs (((k : Nat) : Int)))).tx).n)), .c (iC ((((el xs (((k : Nat) : Int)))).ask).kind)), .c (sC ((((el xs (((k : Nat) : Int)))).ask).key)), .c (sC ((((el xs (((k : Nat) : Int)))).ask).val)), .c (sC (((((el xs (((k : Nat) : Int)))).ask).range).lo)), .c (sC (((((el xs (((k : Nat) : Int)))).ask).range).hi)), .c (iC ((((el xs (((k : Nat) : Int)))).ask).most)), .c (bC ((((el xs (((k : Nat) : Int)))).ask).back)), .c (iC (((el xs (((k : Nat) : Int)))).code)), .c (.sl 2 ((((el xs (((k : Nat) : Int)))).pairs).map ePair))]), (24, .agg [.c (iC (((el ys (((k : Nat) : Int)))).kind)), .c (iC ((((el ys (((k : Nat) : Int)))).tx).c)), .c (iC ((((el ys (((k : Nat) : Int)))).tx).e)), .c (iC ((((el ys (((k : Nat) : Int)))).tx).n)), .c (iC ((((el ys (((k : Nat) : Int)))).ask).kind)), .c (sC ((((el ys (((k : Nat) : Int)))).ask).key)), .c (sC ((((el ys (((k : Nat) : Int)))).ask).val)), .c (sC (((((el ys (((k : Nat) : Int)))).ask).range).lo)), .c (sC (((((el ys (((k : Nat) : Int)))).ask).range).hi)), .c (iC ((((el ys (((k : Nat) : Int)))).ask).most)), .c (bC ((((el ys (((k : Nat) : Int)))).ask).back)), .c (iC (((el ys (((k : Nat) : Int)))).code)), .c (.sl 2 ((((el ys (((k : Nat) : Int)))).pairs).map ePair))])] []) [7] [0, 1, 5, 20, 24] tyOK (by kernel_rfl) (by kernel_rfl) (by kernel_rfl) ?_
          refine aa_all [8] (by kernel_rfl) rfl ?_
          refine aa_cons ?_ aa_nil
          refine aone_enter (listed' := #[true, true, true, true, true, true, true, true, true, false]) (f := 26) (d := 25) (A := [.agg [.c (iC (((el xs (((k : Nat) : Int)))).kind)), .c (iC ((((el xs (((k : Nat) : Int)))).tx).c)), .c (iC ((((el xs (((k : Nat) : Int)))).tx).e)), .c (iC ((((el xs (((k : Nat) : Int)))).tx).n)), .c (iC ((((el xs (((k : Nat) : Int)))).ask).kind)), .c (sC ((((el xs (((k : Nat) : Int)))).ask).key)), .c (sC ((((el xs (((k : Nat) : Int)))).ask).val)), .c (sC (((((el xs (((k : Nat) : Int)))).ask).range).lo)), .c (sC (((((el xs (((k : Nat) : Int)))).ask).range).hi)), .c (iC ((((el xs (((k : Nat) : Int)))).ask).most)), .c (bC ((((el xs (((k : Nat) : Int)))).ask).back)), .c (iC (((el xs (((k : Nat) : Int)))).code)), .c (.sl 2 ((((el xs (((k : Nat) : Int)))).pairs).map ePair))], .agg [.c (iC (((el ys (((k : Nat) : Int)))).kind)), .c (iC ((((el ys (((k : Nat) : Int)))).tx).c)), .c (iC ((((el ys (((k : Nat) : Int)))).tx).e)), .c (iC ((((el ys (((k : Nat) : Int)))).tx).n)), .c (iC ((((el ys (((k : Nat) : Int)))).ask).kind)), .c (sC ((((el ys (((k : Nat) : Int)))).ask).key)), .c (sC ((((el ys (((k : Nat) : Int)))).ask).val)), .c (sC (((((el ys (((k : Nat) : Int)))).ask).range).lo)), .c (sC (((((el ys (((k : Nat) : Int)))).ask).range).hi)), .c (iC ((((el ys (((k : Nat) : Int)))).ask).most)), .c (bC ((((el ys (((k : Nat) : Int)))).ask).back)), .c (iC (((el ys (((k : Nat) : Int)))).code)), .c (.sl 2 ((((el ys (((k : Nat) : Int)))).pairs).map ePair))]]) (st1 := mk 27 [(0, .one (.c (.sl 13 ((xs).map eReply)))), (1, .one (.c (.sl 13 ((ys).map eReply)))), (5, iV (((k : Nat) : Int))), (25, bV (eqReply ((el xs (((k : Nat) : Int)))) ((el ys (((k : Nat) : Int))))))] []) [0, 1, 5, 25] (ok26 ((el xs (((k : Nat) : Int)))) ((el ys (((k : Nat) : Int)))) (hok _ (el_mem p1.2))) Try.call26 (by kernel_rfl) (by kernel_rfl) (by kernel_rfl) (by kernel_rfl) ?_
          refine aa_take (fuel := 0) (listed' := #[true, true, true, true, true, true, true, true, true, true]) (st' := mk 27 [(0, .one (.c (.sl 13 ((xs).map eReply)))), (1, .one (.c (.sl 13 ((ys).map eReply)))), (5, iV (((k : Nat) : Int))), (26, bV (!(eqReply ((el xs (((k : Nat) : Int)))) ((el ys (((k : Nat) : Int)))))))] []) [9] [0, 1, 5, 26] tyOK (by kernel_rfl) (by kernel_rfl) (by kernel_rfl) ?_
          refine aa_done (by kernel_rfl) ?_
          show _ = _; kernel_rfl
        refine a_cond (b := !(eqReply ((el xs (((k : Nat) : Int)))) ((el ys (((k : Nat) : Int)))))) (by kernel_rfl) (fun h3 => ?_) (fun h3 => ?_)
        · have g3 := h3
          try simp only [decide_eq_true_eq, decide_eq_false_iff_not, List.length_map, bne_iff_ne, bne_eq_false_iff_eq, beq_iff_eq, beq_eq_false_iff_ne, Bool.not_eq_true, Bool.not_eq_false, Bool.not_eq_true'] at g3
          refine a_seq ?_
          refine a_run [4] tyOK (st1 := mk 27 [(4, bV false)] []) (by kernel_rfl) ?_
          refine a_ret ?_
          have e : eqReplyS xs ys = false := by
              rw [eqReplyS, ← hR, eqL_step (by omega) (by omega), if_neg (by simpa using h3)]
          exact end_eq (res' := bV false) (by kernel_rfl) (by rw [e])
        · have g3 := h3
          try simp only [decide_eq_true_eq, decide_eq_false_iff_not, List.length_map, bne_iff_ne, bne_eq_false_iff_eq, beq_iff_eq, beq_eq_false_iff_ne, Bool.not_eq_true, Bool.not_eq_false, Bool.not_eq_true'] at g3
          refine a_skip ?_
          refine a_run [0, 1, 5] tyOK (st1 := mk 27 [(0, .one (.c (.sl 13 ((xs).map eReply)))), (1, .one (.c (.sl 13 ((ys).map eReply)))), (5, iV (IntKind.wrap .i64 ((((k : Nat) : Int)) + 1)))] []) (by kernel_rfl) ?_
          refine ⟨⟨(k + 1), ?_⟩, ?_, ?_⟩
          · exact ⟨by omega, hE, by rw [← hR, eqL_step (k := k) (by omega) (by omega), if_pos (by simpa using h3)]⟩
          · exact (show _ = mk 27 [(0, .one (.c (.sl 13 ((xs).map eReply)))), (1, .one (.c (.sl 13 ((ys).map eReply)))), (5, iV (IntKind.wrap .i64 ((((k : Nat) : Int)) + 1)))] [] by kernel_rfl).trans (by rw [mv_wrap (by omega) (by omega)]; rfl)
          · dsimp only; omega
      · have g2 := h2
        try simp only [decide_eq_true_eq, decide_eq_false_iff_not, List.length_map, bne_iff_ne, bne_eq_false_iff_eq, beq_iff_eq, beq_eq_false_iff_ne, Bool.not_eq_true, Bool.not_eq_false, Bool.not_eq_true'] at g2
        refine a_exit ?_
        refine a_seq ?_
        refine a_run [4] tyOK (st1 := mk 27 [(4, bV true)] []) (by kernel_rfl) ?_
        refine a_ret ?_
        have e : eqReplyS xs ys = true := by
            rw [eqReplyS, ← hR, List.drop_eq_nil_of_le (by omega), List.drop_eq_nil_of_le (by omega), eqL]
        exact end_eq (res' := bV true) (by kernel_rfl) (by rw [e])

def neT (x : Reply) (q : Tx) : Bool := !((x.tx.c == q.c) && ((x.tx.e == q.e) && ((x.tx.n == q.n) && true)))
def isYes (x : Reply) : Bool := bif ((x.kind == 3)) then ((x.code == 0)) else false
def bB (x : Reply) : Bool := bif ((x.kind == 4)) then (bif ((x.code == 0)) then true else (bif ((x.kind == 2)) then (decide (x.code > 1)) else (bif ((x.kind == 3)) then (decide (x.code > 1)) else false))) else (bif ((x.kind == 2)) then (decide (x.code > 1)) else (bif ((x.kind == 3)) then (decide (x.code > 1)) else false))
def outL : List Reply → Tx → Int → Int
  | [], _, c => c
  | x :: xs, q, c => if neT x q = true then outL xs q c else if isYes x = true then 1 else if bB x = true then outL xs q 2 else outL xs q c
def outcome (xs : List Reply) (q : Tx) : Int := outL xs q 0
structure L20_1 (xs : (List Reply)) (q : Tx) where
  k : Nat
  c : Int
  inv : k ≤ xs.length ∧ outL (xs.drop k) q c = outcome xs q

/-- spec.Outcome -/
theorem ok20 (xs : (List Reply)) (q : Tx) (hn : xs.length < 9223372036854775808) : CallOK Try.prog 20 [.one (.c (.sl 13 ((xs).map eReply))), .agg [.c (iC q.c), .c (iC q.e), .c (iC q.n)]] (iV (outcome xs q)) [] :=
  callOK tyOK Try.func20 rfl fun w S hS => by
    refine a_seq ?_
    refine a_run [0, 3] tyOK (st1 := mk 51 [(0, .one (.c (.sl 13 ((xs).map eReply)))), (3, .one (.pl [(3, 0)] 0 0))] [(3, [.bx [iC q.c, iC q.e, iC q.n]])]) (by kernel_rfl) ?_
    refine a_seq ?_
    refine a_run [0, 3, 5] tyOK (st1 := mk 51 [(0, .one (.c (.sl 13 ((xs).map eReply)))), (3, .one (.pl [(3, 0)] 0 0)), (5, iV 0)] [(3, [.bx [iC q.c, iC q.e, iC q.n]])]) (by kernel_rfl) ?_
    refine a_seq ?_
    refine a_seq ?_
    refine a_run [3, 5, 8, 9, 10] tyOK (st1 := mk 51 [(3, .one (.pl [(3, 0)] 0 0)), (5, iV 0), (8, .one (.c (.sl 13 ((xs).map eReply)))), (9, iV (((((xs).map eReply).length : Nat) : Int))), (10, iV 0)] [(3, [.bx [iC q.c, iC q.e, iC q.n]])]) (by kernel_rfl) ?_
    refine a_block ?_
    refine a_keep [3, 5, 8, 9, 10] ?_
    refine a_loop (ι := L20_1 xs q) (fun ⟨k, c, _⟩ => mk 51 [(3, .one (.pl [(3, 0)] 0 0)), (5, iV c), (8, .one (.c (.sl 13 ((xs).map eReply)))), (9, iV (((((xs).map eReply).length : Nat) : Int))), (10, iV (((k : Nat) : Int)))] [(3, [.bx [iC q.c, iC q.e, iC q.n]])]) (fun ⟨k, c, _⟩ => xs.length - k) ⟨0, 0, Nat.zero_le _, rfl⟩ (by kernel_rfl) ?_
    rintro ⟨k, c, hI⟩
    obtain ⟨hk, hR⟩ := hI
    show AWp _ _ _ _ (mk 51 [(3, .one (.pl [(3, 0)] 0 0)), (5, iV c), (8, .one (.c (.sl 13 ((xs).map eReply)))), (9, iV (((((xs).map eReply).length : Nat) : Int))), (10, iV (((k : Nat) : Int)))] [(3, [.bx [iC q.c, iC q.e, iC q.n]])])
    refine a_seq ?_
    refine a_run [3, 5, 8, 9, 10, 11] tyOK (st1 := mk 51 [(3, .one (.pl [(3, 0)] 0 0)), (5, iV c), (8, .one (.c (.sl 13 ((xs).map eReply)))), (9, iV (((((xs).map eReply).length : Nat) : Int))), (10, iV (((k : Nat) : Int))), (11, bV (decide ((((k : Nat) : Int)) < (((((xs).map eReply).length : Nat) : Int)))))] [(3, [.bx [iC q.c, iC q.e, iC q.n]])]) (by kernel_rfl) ?_
    refine a_seq ?_
    refine a_cond (b := decide ((((k : Nat) : Int)) < (((((xs).map eReply).length : Nat) : Int)))) (by kernel_rfl) (fun h1 => ?_) (fun h1 => ?_)
    · have g1 := h1
      try simp only [decide_eq_true_eq, decide_eq_false_iff_not, List.length_map, bne_iff_ne, bne_eq_false_iff_eq, beq_iff_eq, beq_eq_false_iff_ne, Bool.not_eq_true, Bool.not_eq_false, Bool.not_eq_true'] at g1
      refine a_skip ?_
      refine a_seq ?_
      refine a_block ?_
      refine a_seq ?_
      refine a_ops [0, 1, 2, 3] (by kernel_rfl) ?_
      have p1 : 0 ≤ (((k : Nat) : Int)) ∧ (((k : Nat) : Int)).toNat < (xs).length := by first | omega | (rw [mv_wrap (by omega) (by omega)]; omega)
      obtain ⟨x1, q1⟩ : ∃ x, (xs)[(((k : Nat) : Int)).toNat]? = some x := ⟨_, List.getElem?_eq_getElem p1.2⟩
      have r1 := q1
      try simp only [Int.toNat_natCast] at r1
      refine ao_index (d := 12) (size := 13) (n := ((k : Nat) : Int)) (rows := (xs).map eReply) (st1 := mk 51 [(3, .one (.pl [(3, 0)] 0 0)), (5, iV c), (8, .one (.c (.sl 13 ((xs).map eReply)))), (9, iV (((((xs).map eReply).length : Nat) : Int))), (10, iV (((k : Nat) : Int))), (12, .one (.fp [iC x1.kind, iC x1.tx.c, iC x1.tx.e, iC x1.tx.n, iC x1.ask.kind, sC x1.ask.key, sC x1.ask.val, sC x1.ask.range.lo, sC x1.ask.range.hi, iC x1.ask.most, bC x1.ask.back, iC x1.code, .sl 2 ((x1.pairs).map ePair)] 0))] [(3, [.bx [iC q.c, iC q.e, iC q.n]])]) (eReply x1) [3, 5, 8, 9, 10, 12] tyOK (by kernel_rfl) p1.1 (by rw [List.getElem?_map, q1]; rfl) (by kernel_rfl) (by kernel_rfl) ?_
      refine ao_some [1, 2, 3] [] [3, 5, 7, 8, 9, 10] tyOK (st1 := mk 51 [(3, .one (.pl [(3, 0)] 0 0)), (5, iV c), (7, .one (.pl [(7, 0)] 0 0)), (8, .one (.c (.sl 13 ((xs).map eReply)))), (9, iV (((((xs).map eReply).length : Nat) : Int))), (10, iV (((k : Nat) : Int)))] [(3, [.bx [iC q.c, iC q.e, iC q.n]]), (7, [.bx [iC x1.kind, iC x1.tx.c, iC x1.tx.e, iC x1.tx.n, iC x1.ask.kind, sC x1.ask.key, sC x1.ask.val, sC x1.ask.range.lo, sC x1.ask.range.hi, iC x1.ask.most, bC x1.ask.back, iC x1.code, .fz (.sl 2 ((x1.pairs).map ePair))]])]) (by kernel_rfl) ?_
      refine ao_nil ?_
      refine a_seq ?_
      refine a_seq ?_
      refine a_run [3, 5, 7, 8, 9, 10, 17] tyOK (st1 := mk 51 [(3, .one (.pl [(3, 0)] 0 0)), (5, iV c), (7, .one (.pl [(7, 0)] 0 0)), (8, .one (.c (.sl 13 ((xs).map eReply)))), (9, iV (((((xs).map eReply).length : Nat) : Int))), (10, iV (((k : Nat) : Int))), (17, bV (!((x1.tx.c == q.c) && ((x1.tx.e == q.e) && ((x1.tx.n == q.n) && true)))))] [(3, [.bx [iC q.c, iC q.e, iC q.n]]), (7, [.bx [iC x1.kind, iC x1.tx.c, iC x1.tx.e, iC x1.tx.n, iC x1.ask.kind, sC x1.ask.key, sC x1.ask.val, sC x1.ask.range.lo, sC x1.ask.range.hi, iC x1.ask.most, bC x1.ask.back, iC x1.code, .fz (.sl 2 ((x1.pairs).map ePair))]])]) (by kernel_rfl) ?_
      refine a_cond (b := !((x1.tx.c == q.c) && ((x1.tx.e == q.e) && ((x1.tx.n == q.n) && true)))) (by kernel_rfl) (fun h2 => ?_) (fun h2 => ?_)
      · have g2 := h2
        try simp only [decide_eq_true_eq, decide_eq_false_iff_not, List.length_map, bne_iff_ne, bne_eq_false_iff_eq, beq_iff_eq, beq_eq_false_iff_ne, Bool.not_eq_true, Bool.not_eq_false, Bool.not_eq_true'] at g2
        refine a_exit ?_
        refine a_run [3, 5, 8, 9, 10] tyOK (st1 := mk 51 [(3, .one (.pl [(3, 0)] 0 0)), (5, iV c), (8, .one (.c (.sl 13 ((xs).map eReply)))), (9, iV (((((xs).map eReply).length : Nat) : Int))), (10, iV (IntKind.wrap .i64 ((((k : Nat) : Int)) + 1)))] [(3, [.bx [iC q.c, iC q.e, iC q.n]])]) (by kernel_rfl) ?_
        refine ⟨⟨(k + 1), c, ?_⟩, ?_, ?_⟩
        · exact ⟨by omega, by rw [← hR, drop_of_get r1, outL, if_pos (show neT x1 q = true from h2)]⟩
        · exact (show _ = mk 51 [(3, .one (.pl [(3, 0)] 0 0)), (5, iV c), (8, .one (.c (.sl 13 ((xs).map eReply)))), (9, iV (((((xs).map eReply).length : Nat) : Int))), (10, iV (IntKind.wrap .i64 ((((k : Nat) : Int)) + 1)))] [(3, [.bx [iC q.c, iC q.e, iC q.n]])] by kernel_rfl).trans (by rw [mv_wrap (n := (k : Int) + 1) (by omega) (by omega)]; rfl)
        · dsimp only; omega
      · have g2 := h2
        try simp only [decide_eq_true_eq, decide_eq_false_iff_not, List.length_map, bne_iff_ne, bne_eq_false_iff_eq, beq_iff_eq, beq_eq_false_iff_ne, Bool.not_eq_true, Bool.not_eq_false, Bool.not_eq_true'] at g2
        refine a_skip ?_
        refine a_seq ?_
        refine a_seq ?_
        refine a_mid (mk 51 [(3, .one (.pl [(3, 0)] 0 0)), (5, iV c), (7, .one (.pl [(7, 0)] 0 0)), (8, .one (.c (.sl 13 ((xs).map eReply)))), (9, iV (((((xs).map eReply).length : Nat) : Int))), (10, iV (((k : Nat) : Int))), (25, bV (bif ((x1.kind == 3)) then ((x1.code == 0)) else false))] [(3, [.bx [iC q.c, iC q.e, iC q.n]]), (7, [.bx [iC x1.kind, iC x1.tx.c, iC x1.tx.e, iC x1.tx.n, iC x1.ask.kind, sC x1.ask.key, sC x1.ask.val, sC x1.ask.range.lo, sC x1.ask.range.hi, iC x1.ask.most, bC x1.ask.back, iC x1.code, .fz (.sl 2 ((x1.pairs).map ePair))]])]) ?_ ?_
        · refine a_ops [0, 1, 2, 3, 4, 5, 6, 7] (by kernel_rfl) ?_
          refine ao_some [0, 1, 2, 3] [4, 5, 6, 7] [3, 5, 7, 8, 9, 10, 21] tyOK (st1 := mk 51 [(3, .one (.pl [(3, 0)] 0 0)), (5, iV c), (7, .one (.pl [(7, 0)] 0 0)), (8, .one (.c (.sl 13 ((xs).map eReply)))), (9, iV (((((xs).map eReply).length : Nat) : Int))), (10, iV (((k : Nat) : Int))), (21, bV ((x1.kind == 3)))] [(3, [.bx [iC q.c, iC q.e, iC q.n]]), (7, [.bx [iC x1.kind, iC x1.tx.c, iC x1.tx.e, iC x1.tx.n, iC x1.ask.kind, sC x1.ask.key, sC x1.ask.val, sC x1.ask.range.lo, sC x1.ask.range.hi, iC x1.ask.most, bC x1.ask.back, iC x1.code, .fz (.sl 2 ((x1.pairs).map ePair))]])]) (by kernel_rfl) ?_
          rcases Bool.eq_false_or_eq_true ((x1.kind == 3)) with h3 | h3
          · rw [h3]
            have g3 := h3
            try simp only [decide_eq_true_eq, decide_eq_false_iff_not, List.length_map, bne_iff_ne, bne_eq_false_iff_eq, beq_iff_eq, beq_eq_false_iff_ne, Bool.not_eq_true, Bool.not_eq_false, Bool.not_eq_true'] at g3
            refine ao_some [4, 5, 6, 7] [] [3, 5, 7, 8, 9, 10, 25] tyOK (st1 := mk 51 [(3, .one (.pl [(3, 0)] 0 0)), (5, iV c), (7, .one (.pl [(7, 0)] 0 0)), (8, .one (.c (.sl 13 ((xs).map eReply)))), (9, iV (((((xs).map eReply).length : Nat) : Int))), (10, iV (((k : Nat) : Int))), (25, bV ((x1.code == 0)))] [(3, [.bx [iC q.c, iC q.e, iC q.n]]), (7, [.bx [iC x1.kind, iC x1.tx.c, iC x1.tx.e, iC x1.tx.n, iC x1.ask.kind, sC x1.ask.key, sC x1.ask.val, sC x1.ask.range.lo, sC x1.ask.range.hi, iC x1.ask.most, bC x1.ask.back, iC x1.code, .fz (.sl 2 ((x1.pairs).map ePair))]])]) (by kernel_rfl) ?_
            exact ao_nil (by show _ = _; kernel_rfl)
          · rw [h3]
            have g3 := h3
            try simp only [decide_eq_true_eq, decide_eq_false_iff_not, List.length_map, bne_iff_ne, bne_eq_false_iff_eq, beq_iff_eq, beq_eq_false_iff_ne, Bool.not_eq_true, Bool.not_eq_false, Bool.not_eq_true'] at g3
            refine ao_some [4, 5, 6, 7] [] [3, 5, 7, 8, 9, 10, 25] tyOK (st1 := mk 51 [(3, .one (.pl [(3, 0)] 0 0)), (5, iV c), (7, .one (.pl [(7, 0)] 0 0)), (8, .one (.c (.sl 13 ((xs).map eReply)))), (9, iV (((((xs).map eReply).length : Nat) : Int))), (10, iV (((k : Nat) : Int))), (25, bV false)] [(3, [.bx [iC q.c, iC q.e, iC q.n]]), (7, [.bx [iC x1.kind, iC x1.tx.c, iC x1.tx.e, iC x1.tx.n, iC x1.ask.kind, sC x1.ask.key, sC x1.ask.val, sC x1.ask.range.lo, sC x1.ask.range.hi, iC x1.ask.most, bC x1.ask.back, iC x1.code, .fz (.sl 2 ((x1.pairs).map ePair))]])]) (by kernel_rfl) ?_
            exact ao_nil (by show _ = _; kernel_rfl)
        refine a_cond (b := bif ((x1.kind == 3)) then ((x1.code == 0)) else false) (by kernel_rfl) (fun h4 => ?_) (fun h4 => ?_)
        · have g4 := h4
          try simp only [decide_eq_true_eq, decide_eq_false_iff_not, List.length_map, bne_iff_ne, bne_eq_false_iff_eq, beq_iff_eq, beq_eq_false_iff_ne, Bool.not_eq_true, Bool.not_eq_false, Bool.not_eq_true'] at g4
          refine a_seq ?_
          refine a_run [4] tyOK (st1 := mk 51 [(4, iV 1)] []) (by kernel_rfl) ?_
          refine a_ret ?_
          have e : outcome xs q = 1 := by
              rw [← hR, drop_of_get r1, outL, if_neg (Bool.eq_false_iff.1 (show neT x1 q = false from h2)), if_pos (show isYes x1 = true from h4)]
          exact end_eq (res' := iV 1) (by kernel_rfl) (by rw [e])
        · have g4 := h4
          try simp only [decide_eq_true_eq, decide_eq_false_iff_not, List.length_map, bne_iff_ne, bne_eq_false_iff_eq, beq_iff_eq, beq_eq_false_iff_ne, Bool.not_eq_true, Bool.not_eq_false, Bool.not_eq_true'] at g4
          refine a_skip ?_
          refine a_seq ?_
          refine a_mid (mk 51 [(3, .one (.pl [(3, 0)] 0 0)), (5, iV c), (8, .one (.c (.sl 13 ((xs).map eReply)))), (9, iV (((((xs).map eReply).length : Nat) : Int))), (10, iV (((k : Nat) : Int))), (48, bV (bif ((x1.kind == 4)) then (bif ((x1.code == 0)) then true else (bif ((x1.kind == 2)) then (decide (x1.code > 1)) else (bif ((x1.kind == 3)) then (decide (x1.code > 1)) else false))) else (bif ((x1.kind == 2)) then (decide (x1.code > 1)) else (bif ((x1.kind == 3)) then (decide (x1.code > 1)) else false))))] [(3, [.bx [iC q.c, iC q.e, iC q.n]])]) ?_ ?_
          · refine a_ops [0, 1, 2, 3, 4, 5, 6, 7, 8, 9, 10, 11, 12, 13, 14, 15, 16, 17, 18, 19, 20, 21, 22] (by kernel_rfl) ?_
            refine ao_some [0, 1, 2, 3] [4, 5, 6, 7, 8, 9, 10, 11, 12, 13, 14, 15, 16, 17, 18, 19, 20, 21, 22] [3, 5, 7, 8, 9, 10, 29] tyOK (st1 := mk 51 [(3, .one (.pl [(3, 0)] 0 0)), (5, iV c), (7, .one (.pl [(7, 0)] 0 0)), (8, .one (.c (.sl 13 ((xs).map eReply)))), (9, iV (((((xs).map eReply).length : Nat) : Int))), (10, iV (((k : Nat) : Int))), (29, bV ((x1.kind == 4)))] [(3, [.bx [iC q.c, iC q.e, iC q.n]]), (7, [.bx [iC x1.kind, iC x1.tx.c, iC x1.tx.e, iC x1.tx.n, iC x1.ask.kind, sC x1.ask.key, sC x1.ask.val, sC x1.ask.range.lo, sC x1.ask.range.hi, iC x1.ask.most, bC x1.ask.back, iC x1.code, .fz (.sl 2 ((x1.pairs).map ePair))]])]) (by kernel_rfl) ?_
            rcases Bool.eq_false_or_eq_true ((x1.kind == 4)) with h5 | h5
            · rw [h5]
              have g5 := h5
              try simp only [decide_eq_true_eq, decide_eq_false_iff_not, List.length_map, bne_iff_ne, bne_eq_false_iff_eq, beq_iff_eq, beq_eq_false_iff_ne, Bool.not_eq_true, Bool.not_eq_false, Bool.not_eq_true'] at g5
              refine ao_some [4, 5, 6, 7, 8] [9, 10, 11, 12, 13, 14, 15, 16, 17, 18, 19, 20, 21, 22] [3, 5, 7, 8, 9, 10, 34] tyOK (st1 := mk 51 [(3, .one (.pl [(3, 0)] 0 0)), (5, iV c), (7, .one (.pl [(7, 0)] 0 0)), (8, .one (.c (.sl 13 ((xs).map eReply)))), (9, iV (((((xs).map eReply).length : Nat) : Int))), (10, iV (((k : Nat) : Int))), (34, bV ((x1.code == 0)))] [(3, [.bx [iC q.c, iC q.e, iC q.n]]), (7, [.bx [iC x1.kind, iC x1.tx.c, iC x1.tx.e, iC x1.tx.n, iC x1.ask.kind, sC x1.ask.key, sC x1.ask.val, sC x1.ask.range.lo, sC x1.ask.range.hi, iC x1.ask.most, bC x1.ask.back, iC x1.code, .fz (.sl 2 ((x1.pairs).map ePair))]])]) (by kernel_rfl) ?_
              rcases Bool.eq_false_or_eq_true ((x1.code == 0)) with h6 | h6
              · rw [h6]
                have g6 := h6
                try simp only [decide_eq_true_eq, decide_eq_false_iff_not, List.length_map, bne_iff_ne, bne_eq_false_iff_eq, beq_iff_eq, beq_eq_false_iff_ne, Bool.not_eq_true, Bool.not_eq_false, Bool.not_eq_true'] at g6
                refine ao_some [9, 10, 11, 12, 13, 14, 15, 16, 17, 18, 19, 20, 21, 22] [] [3, 5, 8, 9, 10, 48] tyOK (st1 := mk 51 [(3, .one (.pl [(3, 0)] 0 0)), (5, iV c), (8, .one (.c (.sl 13 ((xs).map eReply)))), (9, iV (((((xs).map eReply).length : Nat) : Int))), (10, iV (((k : Nat) : Int))), (48, bV true)] [(3, [.bx [iC q.c, iC q.e, iC q.n]])]) (by kernel_rfl) ?_
                exact ao_nil (by show _ = _; kernel_rfl)
              · rw [h6]
                have g6 := h6
                try simp only [decide_eq_true_eq, decide_eq_false_iff_not, List.length_map, bne_iff_ne, bne_eq_false_iff_eq, beq_iff_eq, beq_eq_false_iff_ne, Bool.not_eq_true, Bool.not_eq_false, Bool.not_eq_true'] at g6
                refine ao_some [9, 10, 11, 12] [13, 14, 15, 16, 17, 18, 19, 20, 21, 22] [3, 5, 7, 8, 9, 10, 34, 38] tyOK (st1 := mk 51 [(3, .one (.pl [(3, 0)] 0 0)), (5, iV c), (7, .one (.pl [(7, 0)] 0 0)), (8, .one (.c (.sl 13 ((xs).map eReply)))), (9, iV (((((xs).map eReply).length : Nat) : Int))), (10, iV (((k : Nat) : Int))), (34, bV false), (38, bV ((x1.kind == 2)))] [(3, [.bx [iC q.c, iC q.e, iC q.n]]), (7, [.bx [iC x1.kind, iC x1.tx.c, iC x1.tx.e, iC x1.tx.n, iC x1.ask.kind, sC x1.ask.key, sC x1.ask.val, sC x1.ask.range.lo, sC x1.ask.range.hi, iC x1.ask.most, bC x1.ask.back, iC x1.code, .fz (.sl 2 ((x1.pairs).map ePair))]])]) (by kernel_rfl) ?_
                rcases Bool.eq_false_or_eq_true ((x1.kind == 2)) with h7 | h7
                · rw [h7]
                  have g7 := h7
                  try simp only [decide_eq_true_eq, decide_eq_false_iff_not, List.length_map, bne_iff_ne, bne_eq_false_iff_eq, beq_iff_eq, beq_eq_false_iff_ne, Bool.not_eq_true, Bool.not_eq_false, Bool.not_eq_true'] at g7
                  refine ao_some [13, 14, 15, 16, 17, 18, 19, 20, 21, 22] [] [3, 5, 8, 9, 10, 48] tyOK (st1 := mk 51 [(3, .one (.pl [(3, 0)] 0 0)), (5, iV c), (8, .one (.c (.sl 13 ((xs).map eReply)))), (9, iV (((((xs).map eReply).length : Nat) : Int))), (10, iV (((k : Nat) : Int))), (48, bV (decide (x1.code > 1)))] [(3, [.bx [iC q.c, iC q.e, iC q.n]])]) (by kernel_rfl) ?_
                  exact ao_nil (by show _ = _; kernel_rfl)
                · rw [h7]
                  have g7 := h7
                  try simp only [decide_eq_true_eq, decide_eq_false_iff_not, List.length_map, bne_iff_ne, bne_eq_false_iff_eq, beq_iff_eq, beq_eq_false_iff_ne, Bool.not_eq_true, Bool.not_eq_false, Bool.not_eq_true'] at g7
                  refine ao_some [13, 14, 15, 16, 17] [18, 19, 20, 21, 22] [3, 5, 7, 8, 9, 10, 34, 43] tyOK (st1 := mk 51 [(3, .one (.pl [(3, 0)] 0 0)), (5, iV c), (7, .one (.pl [(7, 0)] 0 0)), (8, .one (.c (.sl 13 ((xs).map eReply)))), (9, iV (((((xs).map eReply).length : Nat) : Int))), (10, iV (((k : Nat) : Int))), (34, bV false), (43, bV ((x1.kind == 3)))] [(3, [.bx [iC q.c, iC q.e, iC q.n]]), (7, [.bx [iC x1.kind, iC x1.tx.c, iC x1.tx.e, iC x1.tx.n, iC x1.ask.kind, sC x1.ask.key, sC x1.ask.val, sC x1.ask.range.lo, sC x1.ask.range.hi, iC x1.ask.most, bC x1.ask.back, iC x1.code, .fz (.sl 2 ((x1.pairs).map ePair))]])]) (by kernel_rfl) ?_
                  rcases Bool.eq_false_or_eq_true ((x1.kind == 3)) with h8 | h8
                  · rw [h8]
                    have g8 := h8
                    try simp only [decide_eq_true_eq, decide_eq_false_iff_not, List.length_map, bne_iff_ne, bne_eq_false_iff_eq, beq_iff_eq, beq_eq_false_iff_ne, Bool.not_eq_true, Bool.not_eq_false, Bool.not_eq_true'] at g8
                    refine ao_some [18, 19, 20, 21, 22] [] [3, 5, 8, 9, 10, 48] tyOK (st1 := mk 51 [(3, .one (.pl [(3, 0)] 0 0)), (5, iV c), (8, .one (.c (.sl 13 ((xs).map eReply)))), (9, iV (((((xs).map eReply).length : Nat) : Int))), (10, iV (((k : Nat) : Int))), (48, bV (decide (x1.code > 1)))] [(3, [.bx [iC q.c, iC q.e, iC q.n]])]) (by kernel_rfl) ?_
                    exact ao_nil (by show _ = _; kernel_rfl)
                  · rw [h8]
                    have g8 := h8
                    try simp only [decide_eq_true_eq, decide_eq_false_iff_not, List.length_map, bne_iff_ne, bne_eq_false_iff_eq, beq_iff_eq, beq_eq_false_iff_ne, Bool.not_eq_true, Bool.not_eq_false, Bool.not_eq_true'] at g8
                    refine ao_some [18, 19, 20, 21, 22] [] [3, 5, 8, 9, 10, 48] tyOK (st1 := mk 51 [(3, .one (.pl [(3, 0)] 0 0)), (5, iV c), (8, .one (.c (.sl 13 ((xs).map eReply)))), (9, iV (((((xs).map eReply).length : Nat) : Int))), (10, iV (((k : Nat) : Int))), (48, bV false)] [(3, [.bx [iC q.c, iC q.e, iC q.n]])]) (by kernel_rfl) ?_
                    exact ao_nil (by show _ = _; kernel_rfl)
            · rw [h5]
              have g5 := h5
              try simp only [decide_eq_true_eq, decide_eq_false_iff_not, List.length_map, bne_iff_ne, bne_eq_false_iff_eq, beq_iff_eq, beq_eq_false_iff_ne, Bool.not_eq_true, Bool.not_eq_false, Bool.not_eq_true'] at g5
              refine ao_some [4, 5, 6, 7, 8, 9, 10, 11, 12] [13, 14, 15, 16, 17, 18, 19, 20, 21, 22] [3, 5, 7, 8, 9, 10, 34, 38] tyOK (st1 := mk 51 [(3, .one (.pl [(3, 0)] 0 0)), (5, iV c), (7, .one (.pl [(7, 0)] 0 0)), (8, .one (.c (.sl 13 ((xs).map eReply)))), (9, iV (((((xs).map eReply).length : Nat) : Int))), (10, iV (((k : Nat) : Int))), (34, bV false), (38, bV ((x1.kind == 2)))] [(3, [.bx [iC q.c, iC q.e, iC q.n]]), (7, [.bx [iC x1.kind, iC x1.tx.c, iC x1.tx.e, iC x1.tx.n, iC x1.ask.kind, sC x1.ask.key, sC x1.ask.val, sC x1.ask.range.lo, sC x1.ask.range.hi, iC x1.ask.most, bC x1.ask.back, iC x1.code, .fz (.sl 2 ((x1.pairs).map ePair))]])]) (by kernel_rfl) ?_
              rcases Bool.eq_false_or_eq_true ((x1.kind == 2)) with h9 | h9
              · rw [h9]
                have g9 := h9
                try simp only [decide_eq_true_eq, decide_eq_false_iff_not, List.length_map, bne_iff_ne, bne_eq_false_iff_eq, beq_iff_eq, beq_eq_false_iff_ne, Bool.not_eq_true, Bool.not_eq_false, Bool.not_eq_true'] at g9
                refine ao_some [13, 14, 15, 16, 17, 18, 19, 20, 21, 22] [] [3, 5, 8, 9, 10, 48] tyOK (st1 := mk 51 [(3, .one (.pl [(3, 0)] 0 0)), (5, iV c), (8, .one (.c (.sl 13 ((xs).map eReply)))), (9, iV (((((xs).map eReply).length : Nat) : Int))), (10, iV (((k : Nat) : Int))), (48, bV (decide (x1.code > 1)))] [(3, [.bx [iC q.c, iC q.e, iC q.n]])]) (by kernel_rfl) ?_
                exact ao_nil (by show _ = _; kernel_rfl)
              · rw [h9]
                have g9 := h9
                try simp only [decide_eq_true_eq, decide_eq_false_iff_not, List.length_map, bne_iff_ne, bne_eq_false_iff_eq, beq_iff_eq, beq_eq_false_iff_ne, Bool.not_eq_true, Bool.not_eq_false, Bool.not_eq_true'] at g9
                refine ao_some [13, 14, 15, 16, 17] [18, 19, 20, 21, 22] [3, 5, 7, 8, 9, 10, 34, 43] tyOK (st1 := mk 51 [(3, .one (.pl [(3, 0)] 0 0)), (5, iV c), (7, .one (.pl [(7, 0)] 0 0)), (8, .one (.c (.sl 13 ((xs).map eReply)))), (9, iV (((((xs).map eReply).length : Nat) : Int))), (10, iV (((k : Nat) : Int))), (34, bV false), (43, bV ((x1.kind == 3)))] [(3, [.bx [iC q.c, iC q.e, iC q.n]]), (7, [.bx [iC x1.kind, iC x1.tx.c, iC x1.tx.e, iC x1.tx.n, iC x1.ask.kind, sC x1.ask.key, sC x1.ask.val, sC x1.ask.range.lo, sC x1.ask.range.hi, iC x1.ask.most, bC x1.ask.back, iC x1.code, .fz (.sl 2 ((x1.pairs).map ePair))]])]) (by kernel_rfl) ?_
                rcases Bool.eq_false_or_eq_true ((x1.kind == 3)) with h10 | h10
                · rw [h10]
                  have g10 := h10
                  try simp only [decide_eq_true_eq, decide_eq_false_iff_not, List.length_map, bne_iff_ne, bne_eq_false_iff_eq, beq_iff_eq, beq_eq_false_iff_ne, Bool.not_eq_true, Bool.not_eq_false, Bool.not_eq_true'] at g10
                  refine ao_some [18, 19, 20, 21, 22] [] [3, 5, 8, 9, 10, 48] tyOK (st1 := mk 51 [(3, .one (.pl [(3, 0)] 0 0)), (5, iV c), (8, .one (.c (.sl 13 ((xs).map eReply)))), (9, iV (((((xs).map eReply).length : Nat) : Int))), (10, iV (((k : Nat) : Int))), (48, bV (decide (x1.code > 1)))] [(3, [.bx [iC q.c, iC q.e, iC q.n]])]) (by kernel_rfl) ?_
                  exact ao_nil (by show _ = _; kernel_rfl)
                · rw [h10]
                  have g10 := h10
                  try simp only [decide_eq_true_eq, decide_eq_false_iff_not, List.length_map, bne_iff_ne, bne_eq_false_iff_eq, beq_iff_eq, beq_eq_false_iff_ne, Bool.not_eq_true, Bool.not_eq_false, Bool.not_eq_true'] at g10
                  refine ao_some [18, 19, 20, 21, 22] [] [3, 5, 8, 9, 10, 48] tyOK (st1 := mk 51 [(3, .one (.pl [(3, 0)] 0 0)), (5, iV c), (8, .one (.c (.sl 13 ((xs).map eReply)))), (9, iV (((((xs).map eReply).length : Nat) : Int))), (10, iV (((k : Nat) : Int))), (48, bV false)] [(3, [.bx [iC q.c, iC q.e, iC q.n]])]) (by kernel_rfl) ?_
                  exact ao_nil (by show _ = _; kernel_rfl)
          refine a_cond (b := bif ((x1.kind == 4)) then (bif ((x1.code == 0)) then true else (bif ((x1.kind == 2)) then (decide (x1.code > 1)) else (bif ((x1.kind == 3)) then (decide (x1.code > 1)) else false))) else (bif ((x1.kind == 2)) then (decide (x1.code > 1)) else (bif ((x1.kind == 3)) then (decide (x1.code > 1)) else false))) (by kernel_rfl) (fun h11 => ?_) (fun h11 => ?_)
          · have g11 := h11
            try simp only [decide_eq_true_eq, decide_eq_false_iff_not, List.length_map, bne_iff_ne, bne_eq_false_iff_eq, beq_iff_eq, beq_eq_false_iff_ne, Bool.not_eq_true, Bool.not_eq_false, Bool.not_eq_true'] at g11
            refine a_run [3, 5, 8, 9, 10] tyOK (st1 := mk 51 [(3, .one (.pl [(3, 0)] 0 0)), (5, iV 2), (8, .one (.c (.sl 13 ((xs).map eReply)))), (9, iV (((((xs).map eReply).length : Nat) : Int))), (10, iV (((k : Nat) : Int)))] [(3, [.bx [iC q.c, iC q.e, iC q.n]])]) (by kernel_rfl) ?_
            refine a_run [3, 5, 8, 9, 10] tyOK (st1 := mk 51 [(3, .one (.pl [(3, 0)] 0 0)), (5, iV 2), (8, .one (.c (.sl 13 ((xs).map eReply)))), (9, iV (((((xs).map eReply).length : Nat) : Int))), (10, iV (IntKind.wrap .i64 ((((k : Nat) : Int)) + 1)))] [(3, [.bx [iC q.c, iC q.e, iC q.n]])]) (by kernel_rfl) ?_
            refine ⟨⟨(k + 1), 2, ?_⟩, ?_, ?_⟩
            · exact ⟨by omega, by rw [← hR, drop_of_get r1, outL, if_neg (Bool.eq_false_iff.1 (show neT x1 q = false from h2)), if_neg (Bool.eq_false_iff.1 (show isYes x1 = false from h4)), if_pos (show bB x1 = true from h11)]⟩
            · exact (show _ = mk 51 [(3, .one (.pl [(3, 0)] 0 0)), (5, iV 2), (8, .one (.c (.sl 13 ((xs).map eReply)))), (9, iV (((((xs).map eReply).length : Nat) : Int))), (10, iV (IntKind.wrap .i64 ((((k : Nat) : Int)) + 1)))] [(3, [.bx [iC q.c, iC q.e, iC q.n]])] by kernel_rfl).trans (by rw [mv_wrap (n := (k : Int) + 1) (by omega) (by omega)]; rfl)
            · dsimp only; omega
          · have g11 := h11
            try simp only [decide_eq_true_eq, decide_eq_false_iff_not, List.length_map, bne_iff_ne, bne_eq_false_iff_eq, beq_iff_eq, beq_eq_false_iff_ne, Bool.not_eq_true, Bool.not_eq_false, Bool.not_eq_true'] at g11
            refine a_skip ?_
            refine a_run [3, 5, 8, 9, 10] tyOK (st1 := mk 51 [(3, .one (.pl [(3, 0)] 0 0)), (5, iV c), (8, .one (.c (.sl 13 ((xs).map eReply)))), (9, iV (((((xs).map eReply).length : Nat) : Int))), (10, iV (IntKind.wrap .i64 ((((k : Nat) : Int)) + 1)))] [(3, [.bx [iC q.c, iC q.e, iC q.n]])]) (by kernel_rfl) ?_
            refine ⟨⟨(k + 1), c, ?_⟩, ?_, ?_⟩
            · exact ⟨by omega, by rw [← hR, drop_of_get r1, outL, if_neg (Bool.eq_false_iff.1 (show neT x1 q = false from h2)), if_neg (Bool.eq_false_iff.1 (show isYes x1 = false from h4)), if_neg (Bool.eq_false_iff.1 (show bB x1 = false from h11))]⟩
            · exact (show _ = mk 51 [(3, .one (.pl [(3, 0)] 0 0)), (5, iV c), (8, .one (.c (.sl 13 ((xs).map eReply)))), (9, iV (((((xs).map eReply).length : Nat) : Int))), (10, iV (IntKind.wrap .i64 ((((k : Nat) : Int)) + 1)))] [(3, [.bx [iC q.c, iC q.e, iC q.n]])] by kernel_rfl).trans (by rw [mv_wrap (n := (k : Int) + 1) (by omega) (by omega)]; rfl)
            · dsimp only; omega
    · have g1 := h1
      try simp only [decide_eq_true_eq, decide_eq_false_iff_not, List.length_map, bne_iff_ne, bne_eq_false_iff_eq, beq_iff_eq, beq_eq_false_iff_ne, Bool.not_eq_true, Bool.not_eq_false, Bool.not_eq_true'] at g1
      refine a_exit ?_
      refine a_seq ?_
      refine a_run [4] tyOK (st1 := mk 51 [(4, iV c)] []) (by kernel_rfl) ?_
      refine a_ret ?_
      have e : outcome xs q = c := by
          rw [← hR, List.drop_eq_nil_of_le (by omega), outL]
      exact end_eq (res' := iV c) (by kernel_rfl) (by rw [e])


structure L21_1 (xs : (List Reply)) (q : Tx) where
  k : Nat
  b : Bool
  inv : k ≤ xs.length ∧ outL (xs.drop k) q (if b = true then 2 else 0) = outcome xs q

/-- impl.Outcome -/
theorem ok21 (xs : (List Reply)) (q : Tx) (hn : xs.length < 9223372036854775808) : CallOK Try.prog 21 [.one (.c (.sl 13 ((xs).map eReply))), .agg [.c (iC q.c), .c (iC q.e), .c (iC q.n)]] (iV (outcome xs q)) [] :=
  callOK tyOK Try.func21 rfl fun w S hS => by
    refine a_seq ?_
    refine a_run [0, 3] tyOK (st1 := mk 54 [(0, .one (.c (.sl 13 ((xs).map eReply)))), (3, .one (.pl [(3, 0)] 0 0))] [(3, [.bx [iC q.c, iC q.e, iC q.n]])]) (by kernel_rfl) ?_
    refine a_seq ?_
    refine a_run [0, 3, 5] tyOK (st1 := mk 54 [(0, .one (.c (.sl 13 ((xs).map eReply)))), (3, .one (.pl [(3, 0)] 0 0)), (5, bV false)] [(3, [.bx [iC q.c, iC q.e, iC q.n]])]) (by kernel_rfl) ?_
    refine a_seq ?_
    refine a_seq ?_
    refine a_run [3, 5, 8, 9, 10] tyOK (st1 := mk 54 [(3, .one (.pl [(3, 0)] 0 0)), (5, bV false), (8, .one (.c (.sl 13 ((xs).map eReply)))), (9, iV (((((xs).map eReply).length : Nat) : Int))), (10, iV 0)] [(3, [.bx [iC q.c, iC q.e, iC q.n]])]) (by kernel_rfl) ?_
    refine a_block ?_
    refine a_keep [3, 5, 8, 9, 10] ?_
    refine a_loop (ι := L21_1 xs q) (fun ⟨k, b, _⟩ => mk 54 [(3, .one (.pl [(3, 0)] 0 0)), (5, bV b), (8, .one (.c (.sl 13 ((xs).map eReply)))), (9, iV (((((xs).map eReply).length : Nat) : Int))), (10, iV (((k : Nat) : Int)))] [(3, [.bx [iC q.c, iC q.e, iC q.n]])]) (fun ⟨k, b, _⟩ => xs.length - k) ⟨0, false, Nat.zero_le _, rfl⟩ (by kernel_rfl) ?_
    rintro ⟨k, b, hI⟩
    obtain ⟨hk, hR⟩ := hI
    show AWp _ _ _ _ (mk 54 [(3, .one (.pl [(3, 0)] 0 0)), (5, bV b), (8, .one (.c (.sl 13 ((xs).map eReply)))), (9, iV (((((xs).map eReply).length : Nat) : Int))), (10, iV (((k : Nat) : Int)))] [(3, [.bx [iC q.c, iC q.e, iC q.n]])])
    refine a_seq ?_
    refine a_run [3, 5, 8, 9, 10, 11] tyOK (st1 := mk 54 [(3, .one (.pl [(3, 0)] 0 0)), (5, bV b), (8, .one (.c (.sl 13 ((xs).map eReply)))), (9, iV (((((xs).map eReply).length : Nat) : Int))), (10, iV (((k : Nat) : Int))), (11, bV (decide ((((k : Nat) : Int)) < (((((xs).map eReply).length : Nat) : Int)))))] [(3, [.bx [iC q.c, iC q.e, iC q.n]])]) (by kernel_rfl) ?_
    refine a_seq ?_
    refine a_cond (b := decide ((((k : Nat) : Int)) < (((((xs).map eReply).length : Nat) : Int)))) (by kernel_rfl) (fun h1 => ?_) (fun h1 => ?_)
    · have g1 := h1
      try simp only [decide_eq_true_eq, decide_eq_false_iff_not, List.length_map, bne_iff_ne, bne_eq_false_iff_eq, beq_iff_eq, beq_eq_false_iff_ne, Bool.not_eq_true, Bool.not_eq_false, Bool.not_eq_true'] at g1
      refine a_skip ?_
      refine a_seq ?_
      refine a_block ?_
      refine a_seq ?_
      refine a_ops [0, 1, 2, 3] (by kernel_rfl) ?_
      have p1 : 0 ≤ (((k : Nat) : Int)) ∧ (((k : Nat) : Int)).toNat < (xs).length := by first | omega | (rw [mv_wrap (by omega) (by omega)]; omega)
      obtain ⟨x1, q1⟩ : ∃ x, (xs)[(((k : Nat) : Int)).toNat]? = some x := ⟨_, List.getElem?_eq_getElem p1.2⟩
      have r1 := q1
      try simp only [Int.toNat_natCast] at r1
      refine ao_index (d := 12) (size := 13) (n := ((k : Nat) : Int)) (rows := (xs).map eReply) (st1 := mk 54 [(3, .one (.pl [(3, 0)] 0 0)), (5, bV b), (8, .one (.c (.sl 13 ((xs).map eReply)))), (9, iV (((((xs).map eReply).length : Nat) : Int))), (10, iV (((k : Nat) : Int))), (12, .one (.fp [iC x1.kind, iC x1.tx.c, iC x1.tx.e, iC x1.tx.n, iC x1.ask.kind, sC x1.ask.key, sC x1.ask.val, sC x1.ask.range.lo, sC x1.ask.range.hi, iC x1.ask.most, bC x1.ask.back, iC x1.code, .sl 2 ((x1.pairs).map ePair)] 0))] [(3, [.bx [iC q.c, iC q.e, iC q.n]])]) (eReply x1) [3, 5, 8, 9, 10, 12] tyOK (by kernel_rfl) p1.1 (by rw [List.getElem?_map, q1]; rfl) (by kernel_rfl) (by kernel_rfl) ?_
      refine ao_some [1, 2, 3] [] [3, 5, 7, 8, 9, 10] tyOK (st1 := mk 54 [(3, .one (.pl [(3, 0)] 0 0)), (5, bV b), (7, .one (.pl [(7, 0)] 0 0)), (8, .one (.c (.sl 13 ((xs).map eReply)))), (9, iV (((((xs).map eReply).length : Nat) : Int))), (10, iV (((k : Nat) : Int)))] [(3, [.bx [iC q.c, iC q.e, iC q.n]]), (7, [.bx [iC x1.kind, iC x1.tx.c, iC x1.tx.e, iC x1.tx.n, iC x1.ask.kind, sC x1.ask.key, sC x1.ask.val, sC x1.ask.range.lo, sC x1.ask.range.hi, iC x1.ask.most, bC x1.ask.back, iC x1.code, .fz (.sl 2 ((x1.pairs).map ePair))]])]) (by kernel_rfl) ?_
      refine ao_nil ?_
      refine a_seq ?_
      refine a_seq ?_
      refine a_run [3, 5, 7, 8, 9, 10, 17] tyOK (st1 := mk 54 [(3, .one (.pl [(3, 0)] 0 0)), (5, bV b), (7, .one (.pl [(7, 0)] 0 0)), (8, .one (.c (.sl 13 ((xs).map eReply)))), (9, iV (((((xs).map eReply).length : Nat) : Int))), (10, iV (((k : Nat) : Int))), (17, bV (!((x1.tx.c == q.c) && ((x1.tx.e == q.e) && ((x1.tx.n == q.n) && true)))))] [(3, [.bx [iC q.c, iC q.e, iC q.n]]), (7, [.bx [iC x1.kind, iC x1.tx.c, iC x1.tx.e, iC x1.tx.n, iC x1.ask.kind, sC x1.ask.key, sC x1.ask.val, sC x1.ask.range.lo, sC x1.ask.range.hi, iC x1.ask.most, bC x1.ask.back, iC x1.code, .fz (.sl 2 ((x1.pairs).map ePair))]])]) (by kernel_rfl) ?_
      refine a_cond (b := !((x1.tx.c == q.c) && ((x1.tx.e == q.e) && ((x1.tx.n == q.n) && true)))) (by kernel_rfl) (fun h2 => ?_) (fun h2 => ?_)
      · have g2 := h2
        try simp only [decide_eq_true_eq, decide_eq_false_iff_not, List.length_map, bne_iff_ne, bne_eq_false_iff_eq, beq_iff_eq, beq_eq_false_iff_ne, Bool.not_eq_true, Bool.not_eq_false, Bool.not_eq_true'] at g2
        refine a_exit ?_
        refine a_run [3, 5, 8, 9, 10] tyOK (st1 := mk 54 [(3, .one (.pl [(3, 0)] 0 0)), (5, bV b), (8, .one (.c (.sl 13 ((xs).map eReply)))), (9, iV (((((xs).map eReply).length : Nat) : Int))), (10, iV (IntKind.wrap .i64 ((((k : Nat) : Int)) + 1)))] [(3, [.bx [iC q.c, iC q.e, iC q.n]])]) (by kernel_rfl) ?_
        refine ⟨⟨(k + 1), b, ?_⟩, ?_, ?_⟩
        · exact ⟨by omega, by rw [← hR, drop_of_get r1, outL, if_pos (show neT x1 q = true from h2)]⟩
        · exact (show _ = mk 54 [(3, .one (.pl [(3, 0)] 0 0)), (5, bV b), (8, .one (.c (.sl 13 ((xs).map eReply)))), (9, iV (((((xs).map eReply).length : Nat) : Int))), (10, iV (IntKind.wrap .i64 ((((k : Nat) : Int)) + 1)))] [(3, [.bx [iC q.c, iC q.e, iC q.n]])] by kernel_rfl).trans (by rw [mv_wrap (n := (k : Int) + 1) (by omega) (by omega)]; rfl)
        · dsimp only; omega
      · have g2 := h2
        try simp only [decide_eq_true_eq, decide_eq_false_iff_not, List.length_map, bne_iff_ne, bne_eq_false_iff_eq, beq_iff_eq, beq_eq_false_iff_ne, Bool.not_eq_true, Bool.not_eq_false, Bool.not_eq_true'] at g2
        refine a_skip ?_
        refine a_seq ?_
        refine a_seq ?_
        refine a_mid (mk 54 [(3, .one (.pl [(3, 0)] 0 0)), (5, bV b), (7, .one (.pl [(7, 0)] 0 0)), (8, .one (.c (.sl 13 ((xs).map eReply)))), (9, iV (((((xs).map eReply).length : Nat) : Int))), (10, iV (((k : Nat) : Int))), (25, bV (bif ((x1.kind == 3)) then ((x1.code == 0)) else false))] [(3, [.bx [iC q.c, iC q.e, iC q.n]]), (7, [.bx [iC x1.kind, iC x1.tx.c, iC x1.tx.e, iC x1.tx.n, iC x1.ask.kind, sC x1.ask.key, sC x1.ask.val, sC x1.ask.range.lo, sC x1.ask.range.hi, iC x1.ask.most, bC x1.ask.back, iC x1.code, .fz (.sl 2 ((x1.pairs).map ePair))]])]) ?_ ?_
        · refine a_ops [0, 1, 2, 3, 4, 5, 6, 7] (by kernel_rfl) ?_
          refine ao_some [0, 1, 2, 3] [4, 5, 6, 7] [3, 5, 7, 8, 9, 10, 21] tyOK (st1 := mk 54 [(3, .one (.pl [(3, 0)] 0 0)), (5, bV b), (7, .one (.pl [(7, 0)] 0 0)), (8, .one (.c (.sl 13 ((xs).map eReply)))), (9, iV (((((xs).map eReply).length : Nat) : Int))), (10, iV (((k : Nat) : Int))), (21, bV ((x1.kind == 3)))] [(3, [.bx [iC q.c, iC q.e, iC q.n]]), (7, [.bx [iC x1.kind, iC x1.tx.c, iC x1.tx.e, iC x1.tx.n, iC x1.ask.kind, sC x1.ask.key, sC x1.ask.val, sC x1.ask.range.lo, sC x1.ask.range.hi, iC x1.ask.most, bC x1.ask.back, iC x1.code, .fz (.sl 2 ((x1.pairs).map ePair))]])]) (by kernel_rfl) ?_
          rcases Bool.eq_false_or_eq_true ((x1.kind == 3)) with h3 | h3
          · rw [h3]
            have g3 := h3
            try simp only [decide_eq_true_eq, decide_eq_false_iff_not, List.length_map, bne_iff_ne, bne_eq_false_iff_eq, beq_iff_eq, beq_eq_false_iff_ne, Bool.not_eq_true, Bool.not_eq_false, Bool.not_eq_true'] at g3
            refine ao_some [4, 5, 6, 7] [] [3, 5, 7, 8, 9, 10, 25] tyOK (st1 := mk 54 [(3, .one (.pl [(3, 0)] 0 0)), (5, bV b), (7, .one (.pl [(7, 0)] 0 0)), (8, .one (.c (.sl 13 ((xs).map eReply)))), (9, iV (((((xs).map eReply).length : Nat) : Int))), (10, iV (((k : Nat) : Int))), (25, bV ((x1.code == 0)))] [(3, [.bx [iC q.c, iC q.e, iC q.n]]), (7, [.bx [iC x1.kind, iC x1.tx.c, iC x1.tx.e, iC x1.tx.n, iC x1.ask.kind, sC x1.ask.key, sC x1.ask.val, sC x1.ask.range.lo, sC x1.ask.range.hi, iC x1.ask.most, bC x1.ask.back, iC x1.code, .fz (.sl 2 ((x1.pairs).map ePair))]])]) (by kernel_rfl) ?_
            exact ao_nil (by show _ = _; kernel_rfl)
          · rw [h3]
            have g3 := h3
            try simp only [decide_eq_true_eq, decide_eq_false_iff_not, List.length_map, bne_iff_ne, bne_eq_false_iff_eq, beq_iff_eq, beq_eq_false_iff_ne, Bool.not_eq_true, Bool.not_eq_false, Bool.not_eq_true'] at g3
            refine ao_some [4, 5, 6, 7] [] [3, 5, 7, 8, 9, 10, 25] tyOK (st1 := mk 54 [(3, .one (.pl [(3, 0)] 0 0)), (5, bV b), (7, .one (.pl [(7, 0)] 0 0)), (8, .one (.c (.sl 13 ((xs).map eReply)))), (9, iV (((((xs).map eReply).length : Nat) : Int))), (10, iV (((k : Nat) : Int))), (25, bV false)] [(3, [.bx [iC q.c, iC q.e, iC q.n]]), (7, [.bx [iC x1.kind, iC x1.tx.c, iC x1.tx.e, iC x1.tx.n, iC x1.ask.kind, sC x1.ask.key, sC x1.ask.val, sC x1.ask.range.lo, sC x1.ask.range.hi, iC x1.ask.most, bC x1.ask.back, iC x1.code, .fz (.sl 2 ((x1.pairs).map ePair))]])]) (by kernel_rfl) ?_
            exact ao_nil (by show _ = _; kernel_rfl)
        refine a_cond (b := bif ((x1.kind == 3)) then ((x1.code == 0)) else false) (by kernel_rfl) (fun h4 => ?_) (fun h4 => ?_)
        · have g4 := h4
          try simp only [decide_eq_true_eq, decide_eq_false_iff_not, List.length_map, bne_iff_ne, bne_eq_false_iff_eq, beq_iff_eq, beq_eq_false_iff_ne, Bool.not_eq_true, Bool.not_eq_false, Bool.not_eq_true'] at g4
          refine a_seq ?_
          refine a_run [4] tyOK (st1 := mk 54 [(4, iV 1)] []) (by kernel_rfl) ?_
          refine a_ret ?_
          have e : outcome xs q = 1 := by
              rw [← hR, drop_of_get r1, outL, if_neg (Bool.eq_false_iff.1 (show neT x1 q = false from h2)), if_pos (show isYes x1 = true from h4)]
          exact end_eq (res' := iV 1) (by kernel_rfl) (by rw [e])
        · have g4 := h4
          try simp only [decide_eq_true_eq, decide_eq_false_iff_not, List.length_map, bne_iff_ne, bne_eq_false_iff_eq, beq_iff_eq, beq_eq_false_iff_ne, Bool.not_eq_true, Bool.not_eq_false, Bool.not_eq_true'] at g4
          refine a_skip ?_
          refine a_mid (mk 54 [(3, .one (.pl [(3, 0)] 0 0)), (5, bV (bif b then true else (bif ((x1.kind == 4)) then (bif ((x1.code == 0)) then true else (bif ((x1.kind == 2)) then (decide (x1.code > 1)) else (bif ((x1.kind == 3)) then (decide (x1.code > 1)) else false))) else (bif ((x1.kind == 2)) then (decide (x1.code > 1)) else (bif ((x1.kind == 3)) then (decide (x1.code > 1)) else false))))), (8, .one (.c (.sl 13 ((xs).map eReply)))), (9, iV (((((xs).map eReply).length : Nat) : Int))), (10, iV (((k : Nat) : Int)))] [(3, [.bx [iC q.c, iC q.e, iC q.n]])]) ?_ ?_
          · refine a_ops [0, 1, 2, 3, 4, 5, 6, 7, 8, 9, 10, 11, 12, 13, 14, 15, 16, 17, 18, 19, 20, 21, 22, 23, 24, 25, 26] (by kernel_rfl) ?_
            refine ao_some [0, 1] [2, 3, 4, 5, 6, 7, 8, 9, 10, 11, 12, 13, 14, 15, 16, 17, 18, 19, 20, 21, 22, 23, 24, 25, 26] [3, 7, 8, 9, 10, 27] tyOK (st1 := mk 54 [(3, .one (.pl [(3, 0)] 0 0)), (7, .one (.pl [(7, 0)] 0 0)), (8, .one (.c (.sl 13 ((xs).map eReply)))), (9, iV (((((xs).map eReply).length : Nat) : Int))), (10, iV (((k : Nat) : Int))), (27, bV b)] [(3, [.bx [iC q.c, iC q.e, iC q.n]]), (7, [.bx [iC x1.kind, iC x1.tx.c, iC x1.tx.e, iC x1.tx.n, iC x1.ask.kind, sC x1.ask.key, sC x1.ask.val, sC x1.ask.range.lo, sC x1.ask.range.hi, iC x1.ask.most, bC x1.ask.back, iC x1.code, .fz (.sl 2 ((x1.pairs).map ePair))]])]) (by kernel_rfl) ?_
            rcases Bool.eq_false_or_eq_true (b) with h5 | h5
            · rw [h5]
              have g5 := h5
              try simp only [decide_eq_true_eq, decide_eq_false_iff_not, List.length_map, bne_iff_ne, bne_eq_false_iff_eq, beq_iff_eq, beq_eq_false_iff_ne, Bool.not_eq_true, Bool.not_eq_false, Bool.not_eq_true'] at g5
              refine ao_some [2, 3, 4, 5, 6, 7, 8, 9, 10, 11, 12, 13, 14, 15, 16, 17, 18, 19, 20, 21, 22, 23, 24, 25, 26] [] [3, 5, 8, 9, 10] tyOK (st1 := mk 54 [(3, .one (.pl [(3, 0)] 0 0)), (5, bV true), (8, .one (.c (.sl 13 ((xs).map eReply)))), (9, iV (((((xs).map eReply).length : Nat) : Int))), (10, iV (((k : Nat) : Int)))] [(3, [.bx [iC q.c, iC q.e, iC q.n]])]) (by kernel_rfl) ?_
              exact ao_nil (by show _ = _; kernel_rfl)
            · rw [h5]
              have g5 := h5
              try simp only [decide_eq_true_eq, decide_eq_false_iff_not, List.length_map, bne_iff_ne, bne_eq_false_iff_eq, beq_iff_eq, beq_eq_false_iff_ne, Bool.not_eq_true, Bool.not_eq_false, Bool.not_eq_true'] at g5
              refine ao_some [2, 3, 4, 5] [6, 7, 8, 9, 10, 11, 12, 13, 14, 15, 16, 17, 18, 19, 20, 21, 22, 23, 24, 25, 26] [3, 7, 8, 9, 10, 27, 31] tyOK (st1 := mk 54 [(3, .one (.pl [(3, 0)] 0 0)), (7, .one (.pl [(7, 0)] 0 0)), (8, .one (.c (.sl 13 ((xs).map eReply)))), (9, iV (((((xs).map eReply).length : Nat) : Int))), (10, iV (((k : Nat) : Int))), (27, bV false), (31, bV ((x1.kind == 4)))] [(3, [.bx [iC q.c, iC q.e, iC q.n]]), (7, [.bx [iC x1.kind, iC x1.tx.c, iC x1.tx.e, iC x1.tx.n, iC x1.ask.kind, sC x1.ask.key, sC x1.ask.val, sC x1.ask.range.lo, sC x1.ask.range.hi, iC x1.ask.most, bC x1.ask.back, iC x1.code, .fz (.sl 2 ((x1.pairs).map ePair))]])]) (by kernel_rfl) ?_
              rcases Bool.eq_false_or_eq_true ((x1.kind == 4)) with h6 | h6
              · rw [h6]
                have g6 := h6
                try simp only [decide_eq_true_eq, decide_eq_false_iff_not, List.length_map, bne_iff_ne, bne_eq_false_iff_eq, beq_iff_eq, beq_eq_false_iff_ne, Bool.not_eq_true, Bool.not_eq_false, Bool.not_eq_true'] at g6
                refine ao_some [6, 7, 8, 9, 10, 11] [12, 13, 14, 15, 16, 17, 18, 19, 20, 21, 22, 23, 24, 25, 26] [3, 7, 8, 9, 10, 37] tyOK (st1 := mk 54 [(3, .one (.pl [(3, 0)] 0 0)), (7, .one (.pl [(7, 0)] 0 0)), (8, .one (.c (.sl 13 ((xs).map eReply)))), (9, iV (((((xs).map eReply).length : Nat) : Int))), (10, iV (((k : Nat) : Int))), (37, bV ((x1.code == 0)))] [(3, [.bx [iC q.c, iC q.e, iC q.n]]), (7, [.bx [iC x1.kind, iC x1.tx.c, iC x1.tx.e, iC x1.tx.n, iC x1.ask.kind, sC x1.ask.key, sC x1.ask.val, sC x1.ask.range.lo, sC x1.ask.range.hi, iC x1.ask.most, bC x1.ask.back, iC x1.code, .fz (.sl 2 ((x1.pairs).map ePair))]])]) (by kernel_rfl) ?_
                rcases Bool.eq_false_or_eq_true ((x1.code == 0)) with h7 | h7
                · rw [h7]
                  have g7 := h7
                  try simp only [decide_eq_true_eq, decide_eq_false_iff_not, List.length_map, bne_iff_ne, bne_eq_false_iff_eq, beq_iff_eq, beq_eq_false_iff_ne, Bool.not_eq_true, Bool.not_eq_false, Bool.not_eq_true'] at g7
                  refine ao_some [12, 13, 14, 15, 16, 17, 18, 19, 20, 21, 22, 23, 24, 25, 26] [] [3, 5, 8, 9, 10] tyOK (st1 := mk 54 [(3, .one (.pl [(3, 0)] 0 0)), (5, bV true), (8, .one (.c (.sl 13 ((xs).map eReply)))), (9, iV (((((xs).map eReply).length : Nat) : Int))), (10, iV (((k : Nat) : Int)))] [(3, [.bx [iC q.c, iC q.e, iC q.n]])]) (by kernel_rfl) ?_
                  exact ao_nil (by show _ = _; kernel_rfl)
                · rw [h7]
                  have g7 := h7
                  try simp only [decide_eq_true_eq, decide_eq_false_iff_not, List.length_map, bne_iff_ne, bne_eq_false_iff_eq, beq_iff_eq, beq_eq_false_iff_ne, Bool.not_eq_true, Bool.not_eq_false, Bool.not_eq_true'] at g7
                  refine ao_some [12, 13, 14, 15] [16, 17, 18, 19, 20, 21, 22, 23, 24, 25, 26] [3, 7, 8, 9, 10, 37, 41] tyOK (st1 := mk 54 [(3, .one (.pl [(3, 0)] 0 0)), (7, .one (.pl [(7, 0)] 0 0)), (8, .one (.c (.sl 13 ((xs).map eReply)))), (9, iV (((((xs).map eReply).length : Nat) : Int))), (10, iV (((k : Nat) : Int))), (37, bV false), (41, bV ((x1.kind == 2)))] [(3, [.bx [iC q.c, iC q.e, iC q.n]]), (7, [.bx [iC x1.kind, iC x1.tx.c, iC x1.tx.e, iC x1.tx.n, iC x1.ask.kind, sC x1.ask.key, sC x1.ask.val, sC x1.ask.range.lo, sC x1.ask.range.hi, iC x1.ask.most, bC x1.ask.back, iC x1.code, .fz (.sl 2 ((x1.pairs).map ePair))]])]) (by kernel_rfl) ?_
                  rcases Bool.eq_false_or_eq_true ((x1.kind == 2)) with h8 | h8
                  · rw [h8]
                    have g8 := h8
                    try simp only [decide_eq_true_eq, decide_eq_false_iff_not, List.length_map, bne_iff_ne, bne_eq_false_iff_eq, beq_iff_eq, beq_eq_false_iff_ne, Bool.not_eq_true, Bool.not_eq_false, Bool.not_eq_true'] at g8
                    refine ao_some [16, 17, 18, 19, 20, 21, 22, 23, 24, 25, 26] [] [3, 5, 8, 9, 10] tyOK (st1 := mk 54 [(3, .one (.pl [(3, 0)] 0 0)), (5, bV (decide (x1.code > 1))), (8, .one (.c (.sl 13 ((xs).map eReply)))), (9, iV (((((xs).map eReply).length : Nat) : Int))), (10, iV (((k : Nat) : Int)))] [(3, [.bx [iC q.c, iC q.e, iC q.n]])]) (by kernel_rfl) ?_
                    exact ao_nil (by show _ = _; kernel_rfl)
                  · rw [h8]
                    have g8 := h8
                    try simp only [decide_eq_true_eq, decide_eq_false_iff_not, List.length_map, bne_iff_ne, bne_eq_false_iff_eq, beq_iff_eq, beq_eq_false_iff_ne, Bool.not_eq_true, Bool.not_eq_false, Bool.not_eq_true'] at g8
                    refine ao_some [16, 17, 18, 19, 20] [21, 22, 23, 24, 25, 26] [3, 7, 8, 9, 10, 37, 46] tyOK (st1 := mk 54 [(3, .one (.pl [(3, 0)] 0 0)), (7, .one (.pl [(7, 0)] 0 0)), (8, .one (.c (.sl 13 ((xs).map eReply)))), (9, iV (((((xs).map eReply).length : Nat) : Int))), (10, iV (((k : Nat) : Int))), (37, bV false), (46, bV ((x1.kind == 3)))] [(3, [.bx [iC q.c, iC q.e, iC q.n]]), (7, [.bx [iC x1.kind, iC x1.tx.c, iC x1.tx.e, iC x1.tx.n, iC x1.ask.kind, sC x1.ask.key, sC x1.ask.val, sC x1.ask.range.lo, sC x1.ask.range.hi, iC x1.ask.most, bC x1.ask.back, iC x1.code, .fz (.sl 2 ((x1.pairs).map ePair))]])]) (by kernel_rfl) ?_
                    rcases Bool.eq_false_or_eq_true ((x1.kind == 3)) with h9 | h9
                    · rw [h9]
                      have g9 := h9
                      try simp only [decide_eq_true_eq, decide_eq_false_iff_not, List.length_map, bne_iff_ne, bne_eq_false_iff_eq, beq_iff_eq, beq_eq_false_iff_ne, Bool.not_eq_true, Bool.not_eq_false, Bool.not_eq_true'] at g9
                      refine ao_some [21, 22, 23, 24, 25, 26] [] [3, 5, 8, 9, 10] tyOK (st1 := mk 54 [(3, .one (.pl [(3, 0)] 0 0)), (5, bV (decide (x1.code > 1))), (8, .one (.c (.sl 13 ((xs).map eReply)))), (9, iV (((((xs).map eReply).length : Nat) : Int))), (10, iV (((k : Nat) : Int)))] [(3, [.bx [iC q.c, iC q.e, iC q.n]])]) (by kernel_rfl) ?_
                      exact ao_nil (by show _ = _; kernel_rfl)
                    · rw [h9]
                      have g9 := h9
                      try simp only [decide_eq_true_eq, decide_eq_false_iff_not, List.length_map, bne_iff_ne, bne_eq_false_iff_eq, beq_iff_eq, beq_eq_false_iff_ne, Bool.not_eq_true, Bool.not_eq_false, Bool.not_eq_true'] at g9
                      refine ao_some [21, 22, 23, 24, 25, 26] [] [3, 5, 8, 9, 10] tyOK (st1 := mk 54 [(3, .one (.pl [(3, 0)] 0 0)), (5, bV false), (8, .one (.c (.sl 13 ((xs).map eReply)))), (9, iV (((((xs).map eReply).length : Nat) : Int))), (10, iV (((k : Nat) : Int)))] [(3, [.bx [iC q.c, iC q.e, iC q.n]])]) (by kernel_rfl) ?_
                      exact ao_nil (by show _ = _; kernel_rfl)
              · rw [h6]
                have g6 := h6
                try simp only [decide_eq_true_eq, decide_eq_false_iff_not, List.length_map, bne_iff_ne, bne_eq_false_iff_eq, beq_iff_eq, beq_eq_false_iff_ne, Bool.not_eq_true, Bool.not_eq_false, Bool.not_eq_true'] at g6
                refine ao_some [6, 7, 8, 9, 10, 11, 12, 13, 14, 15] [16, 17, 18, 19, 20, 21, 22, 23, 24, 25, 26] [3, 7, 8, 9, 10, 37, 41] tyOK (st1 := mk 54 [(3, .one (.pl [(3, 0)] 0 0)), (7, .one (.pl [(7, 0)] 0 0)), (8, .one (.c (.sl 13 ((xs).map eReply)))), (9, iV (((((xs).map eReply).length : Nat) : Int))), (10, iV (((k : Nat) : Int))), (37, bV false), (41, bV ((x1.kind == 2)))] [(3, [.bx [iC q.c, iC q.e, iC q.n]]), (7, [.bx [iC x1.kind, iC x1.tx.c, iC x1.tx.e, iC x1.tx.n, iC x1.ask.kind, sC x1.ask.key, sC x1.ask.val, sC x1.ask.range.lo, sC x1.ask.range.hi, iC x1.ask.most, bC x1.ask.back, iC x1.code, .fz (.sl 2 ((x1.pairs).map ePair))]])]) (by kernel_rfl) ?_
                rcases Bool.eq_false_or_eq_true ((x1.kind == 2)) with h10 | h10
                · rw [h10]
                  have g10 := h10
                  try simp only [decide_eq_true_eq, decide_eq_false_iff_not, List.length_map, bne_iff_ne, bne_eq_false_iff_eq, beq_iff_eq, beq_eq_false_iff_ne, Bool.not_eq_true, Bool.not_eq_false, Bool.not_eq_true'] at g10
                  refine ao_some [16, 17, 18, 19, 20, 21, 22, 23, 24, 25, 26] [] [3, 5, 8, 9, 10] tyOK (st1 := mk 54 [(3, .one (.pl [(3, 0)] 0 0)), (5, bV (decide (x1.code > 1))), (8, .one (.c (.sl 13 ((xs).map eReply)))), (9, iV (((((xs).map eReply).length : Nat) : Int))), (10, iV (((k : Nat) : Int)))] [(3, [.bx [iC q.c, iC q.e, iC q.n]])]) (by kernel_rfl) ?_
                  exact ao_nil (by show _ = _; kernel_rfl)
                · rw [h10]
                  have g10 := h10
                  try simp only [decide_eq_true_eq, decide_eq_false_iff_not, List.length_map, bne_iff_ne, bne_eq_false_iff_eq, beq_iff_eq, beq_eq_false_iff_ne, Bool.not_eq_true, Bool.not_eq_false, Bool.not_eq_true'] at g10
                  refine ao_some [16, 17, 18, 19, 20] [21, 22, 23, 24, 25, 26] [3, 7, 8, 9, 10, 37, 46] tyOK (st1 := mk 54 [(3, .one (.pl [(3, 0)] 0 0)), (7, .one (.pl [(7, 0)] 0 0)), (8, .one (.c (.sl 13 ((xs).map eReply)))), (9, iV (((((xs).map eReply).length : Nat) : Int))), (10, iV (((k : Nat) : Int))), (37, bV false), (46, bV ((x1.kind == 3)))] [(3, [.bx [iC q.c, iC q.e, iC q.n]]), (7, [.bx [iC x1.kind, iC x1.tx.c, iC x1.tx.e, iC x1.tx.n, iC x1.ask.kind, sC x1.ask.key, sC x1.ask.val, sC x1.ask.range.lo, sC x1.ask.range.hi, iC x1.ask.most, bC x1.ask.back, iC x1.code, .fz (.sl 2 ((x1.pairs).map ePair))]])]) (by kernel_rfl) ?_
                  rcases Bool.eq_false_or_eq_true ((x1.kind == 3)) with h11 | h11
                  · rw [h11]
                    have g11 := h11
                    try simp only [decide_eq_true_eq, decide_eq_false_iff_not, List.length_map, bne_iff_ne, bne_eq_false_iff_eq, beq_iff_eq, beq_eq_false_iff_ne, Bool.not_eq_true, Bool.not_eq_false, Bool.not_eq_true'] at g11
                    refine ao_some [21, 22, 23, 24, 25, 26] [] [3, 5, 8, 9, 10] tyOK (st1 := mk 54 [(3, .one (.pl [(3, 0)] 0 0)), (5, bV (decide (x1.code > 1))), (8, .one (.c (.sl 13 ((xs).map eReply)))), (9, iV (((((xs).map eReply).length : Nat) : Int))), (10, iV (((k : Nat) : Int)))] [(3, [.bx [iC q.c, iC q.e, iC q.n]])]) (by kernel_rfl) ?_
                    exact ao_nil (by show _ = _; kernel_rfl)
                  · rw [h11]
                    have g11 := h11
                    try simp only [decide_eq_true_eq, decide_eq_false_iff_not, List.length_map, bne_iff_ne, bne_eq_false_iff_eq, beq_iff_eq, beq_eq_false_iff_ne, Bool.not_eq_true, Bool.not_eq_false, Bool.not_eq_true'] at g11
                    refine ao_some [21, 22, 23, 24, 25, 26] [] [3, 5, 8, 9, 10] tyOK (st1 := mk 54 [(3, .one (.pl [(3, 0)] 0 0)), (5, bV false), (8, .one (.c (.sl 13 ((xs).map eReply)))), (9, iV (((((xs).map eReply).length : Nat) : Int))), (10, iV (((k : Nat) : Int)))] [(3, [.bx [iC q.c, iC q.e, iC q.n]])]) (by kernel_rfl) ?_
                    exact ao_nil (by show _ = _; kernel_rfl)
          refine a_run [3, 5, 8, 9, 10] tyOK (st1 := mk 54 [(3, .one (.pl [(3, 0)] 0 0)), (5, bV (bif b then true else (bif ((x1.kind == 4)) then (bif ((x1.code == 0)) then true else (bif ((x1.kind == 2)) then (decide (x1.code > 1)) else (bif ((x1.kind == 3)) then (decide (x1.code > 1)) else false))) else (bif ((x1.kind == 2)) then (decide (x1.code > 1)) else (bif ((x1.kind == 3)) then (decide (x1.code > 1)) else false))))), (8, .one (.c (.sl 13 ((xs).map eReply)))), (9, iV (((((xs).map eReply).length : Nat) : Int))), (10, iV (IntKind.wrap .i64 ((((k : Nat) : Int)) + 1)))] [(3, [.bx [iC q.c, iC q.e, iC q.n]])]) (by kernel_rfl) ?_
          refine ⟨⟨(k + 1), (bif b then true else bB x1), ?_⟩, ?_, ?_⟩
          · exact ⟨by omega, by rw [← hR, drop_of_get r1, outL, if_neg (Bool.eq_false_iff.1 (show neT x1 q = false from h2)), if_neg (Bool.eq_false_iff.1 (show isYes x1 = false from h4))]; cases b <;> cases bB x1 <;> rfl⟩
          · exact (show _ = mk 54 [(3, .one (.pl [(3, 0)] 0 0)), (5, bV (bif b then true else (bif ((x1.kind == 4)) then (bif ((x1.code == 0)) then true else (bif ((x1.kind == 2)) then (decide (x1.code > 1)) else (bif ((x1.kind == 3)) then (decide (x1.code > 1)) else false))) else (bif ((x1.kind == 2)) then (decide (x1.code > 1)) else (bif ((x1.kind == 3)) then (decide (x1.code > 1)) else false))))), (8, .one (.c (.sl 13 ((xs).map eReply)))), (9, iV (((((xs).map eReply).length : Nat) : Int))), (10, iV (IntKind.wrap .i64 ((((k : Nat) : Int)) + 1)))] [(3, [.bx [iC q.c, iC q.e, iC q.n]])] by kernel_rfl).trans (by rw [mv_wrap (n := (k : Int) + 1) (by omega) (by omega)]; rfl)
          · dsimp only; omega
    · have g1 := h1
      try simp only [decide_eq_true_eq, decide_eq_false_iff_not, List.length_map, bne_iff_ne, bne_eq_false_iff_eq, beq_iff_eq, beq_eq_false_iff_ne, Bool.not_eq_true, Bool.not_eq_false, Bool.not_eq_true'] at g1
      refine a_exit ?_
      refine a_seq ?_
      refine a_seq ?_
      refine a_run [53] tyOK (st1 := mk 54 [(53, bV b)] []) (by kernel_rfl) ?_
      refine a_cond (b := b) (by kernel_rfl) (fun h12 => ?_) (fun h12 => ?_)
      · have g12 := h12
        try simp only [decide_eq_true_eq, decide_eq_false_iff_not, List.length_map, bne_iff_ne, bne_eq_false_iff_eq, beq_iff_eq, beq_eq_false_iff_ne, Bool.not_eq_true, Bool.not_eq_false, Bool.not_eq_true'] at g12
        refine a_seq ?_
        refine a_run [4] tyOK (st1 := mk 54 [(4, iV 2)] []) (by kernel_rfl) ?_
        refine a_ret ?_
        have e : outcome xs q = 2 := by
            rw [← hR, List.drop_eq_nil_of_le (by omega), outL, if_pos h12]
        exact end_eq (res' := iV 2) (by kernel_rfl) (by rw [e])
      · have g12 := h12
        try simp only [decide_eq_true_eq, decide_eq_false_iff_not, List.length_map, bne_iff_ne, bne_eq_false_iff_eq, beq_iff_eq, beq_eq_false_iff_ne, Bool.not_eq_true, Bool.not_eq_false, Bool.not_eq_true'] at g12
        refine a_skip ?_
        refine a_seq ?_
        refine a_run [4] tyOK (st1 := mk 54 [(4, iV 0)] []) (by kernel_rfl) ?_
        refine a_ret ?_
        have e : outcome xs q = 0 := by
            rw [← hR, List.drop_eq_nil_of_le (by omega), outL, if_neg (Bool.eq_false_iff.1 h12)]
        exact end_eq (res' := iV 0) (by kernel_rfl) (by rw [e])

theorem eqPair_self (p : Pair) : eqPair p p = true := by simp [eqPair]
theorem eqTx_self (p : Tx) : eqTx p p = true := by simp [eqTx]
theorem eqRange_self (p : Range) : eqRange p p = true := by simp [eqRange]
theorem eqAsk_self (p : Ask) : eqAsk p p = true := by simp [eqAsk, eqRange_self]
theorem eqReply_self (p : Reply) : eqReply p p = true := by simp [eqReply, eqTx_self, eqAsk_self, eqPairS, eqL_self eqPair_self]
def lawOutcome (xs : List Reply) (q : Tx) : Bool := true
/-- laws.FnExactOutcome -/
theorem ok5 (xs : (List Reply)) (q : Tx) (hn : xs.length * 152 ≤ 140737488351232) (hok : ∀ x ∈ xs, okReply x) : CallOK Try.prog 5 [.one (.c (.sl 13 ((xs).map eReply))), .agg [.c (iC q.c), .c (iC q.e), .c (iC q.n)]] (bV (lawOutcome xs q)) [] :=
  callOK tyOK Try.func5 rfl fun w S hS => by
    refine a_seq ?_
    refine a_run [0, 3] tyOK (st1 := mk 33 [(0, .one (.c (.sl 13 ((xs).map eReply)))), (3, .one (.pl [(3, 0)] 0 0))] [(3, [.bx [iC q.c, iC q.e, iC q.n]])]) (by kernel_rfl) ?_
    refine a_seq ?_
    refine a_run [0, 3, 5] tyOK (st1 := mk 33 [(0, .one (.c (.sl 13 ((xs).map eReply)))), (3, .one (.pl [(3, 0)] 0 0)), (5, iV 1048576)] [(3, [.bx [iC q.c, iC q.e, iC q.n]])]) (by kernel_rfl) ?_
    refine a_seq ?_
    refine a_ops [0, 1, 2, 3] (by kernel_rfl) ?_
    refine ao_some [0, 1] [2, 3] [0, 3, 9, 10] tyOK (st1 := mk 33 [(0, .one (.c (.sl 13 ((xs).map eReply)))), (3, .one (.pl [(3, 0)] 0 0)), (9, .one (.c (.sl 13 ((xs).map eReply)))), (10, iV 1048576)] [(3, [.bx [iC q.c, iC q.e, iC q.n]])]) (by kernel_rfl) ?_
    refine ao_enter (f := 14) (d := 11) (A := [.one (.c (.sl 13 ((xs).map eReply))), iV 1048576]) (st1 := mk 33 [(0, .one (.c (.sl 13 ((xs).map eReply)))), (3, .one (.pl [(3, 0)] 0 0)), (11, iV (szS eReply szReply xs 1048576))] [(3, [.bx [iC q.c, iC q.e, iC q.n]])]) [0, 3, 11] (ok14 xs 1048576 (by omega) (hok)) Try.call14 (by kernel_rfl) (by kernel_rfl) (by kernel_rfl) ?_
    refine ao_some [3] [] [0, 3, 5] tyOK (st1 := mk 33 [(0, .one (.c (.sl 13 ((xs).map eReply)))), (3, .one (.pl [(3, 0)] 0 0)), (5, iV (szS eReply szReply xs 1048576))] [(3, [.bx [iC q.c, iC q.e, iC q.n]])]) (by kernel_rfl) ?_
    refine ao_nil ?_
    refine a_seq ?_
    refine a_seq ?_
    refine a_run [0, 3, 13] tyOK (st1 := mk 33 [(0, .one (.c (.sl 13 ((xs).map eReply)))), (3, .one (.pl [(3, 0)] 0 0)), (13, bV (decide ((szS eReply szReply xs 1048576) < 0)))] [(3, [.bx [iC q.c, iC q.e, iC q.n]])]) (by kernel_rfl) ?_
    refine a_cond (b := decide ((szS eReply szReply xs 1048576) < 0)) (by kernel_rfl) (fun h1 => ?_) (fun h1 => ?_)
    · have g1 := h1
      try simp only [decide_eq_true_eq, decide_eq_false_iff_not, List.length_map, bne_iff_ne, bne_eq_false_iff_eq, beq_iff_eq, beq_eq_false_iff_ne, Bool.not_eq_true, Bool.not_eq_false, Bool.not_eq_true'] at g1
      refine a_seq ?_
      refine a_run [4] tyOK (st1 := mk 33 [(4, bV true)] []) (by kernel_rfl) ?_
      refine a_ret ?_
      have e : lawOutcome xs q = true := by
          rfl
      exact end_eq (res' := bV true) (by kernel_rfl) (by rw [e])
    · have g1 := h1
      try simp only [decide_eq_true_eq, decide_eq_false_iff_not, List.length_map, bne_iff_ne, bne_eq_false_iff_eq, beq_iff_eq, beq_eq_false_iff_ne, Bool.not_eq_true, Bool.not_eq_false, Bool.not_eq_true'] at g1
      refine a_skip ?_
      refine a_seq ?_
      refine a_mid (mk 33 [(0, .one (.c (.sl 13 ((xs).map eReply)))), (3, .one (.pl [(3, 0)] 0 0)), (6, iV (outcome (toReplyS xs) (toTx q)))] [(3, [.bx [iC q.c, iC q.e, iC q.n]])]) ?_ ?_
      · refine a_drawn (n := 6) [] (by kernel_rfl) (by kernel_rfl) ?_
        refine aa_take (fuel := 4) (listed' := #[true, false, true, false, false, false]) (st' := mk 33 [(0, .one (.c (.sl 13 ((xs).map eReply)))), (3, .one (.pl [(3, 0)] 0 0)), (14, .one (.c (.sl 13 ((xs).map eReply)))), (16, .agg [.c (iC q.c), .c (iC q.e), .c (iC q.n)])] [(3, [.bx [iC q.c, iC q.e, iC q.n]])]) [0, 2] [0, 3, 14, 16] tyOK (by kernel_rfl) (by kernel_rfl) (by kernel_rfl) ?_
        refine aa_all [1] (by kernel_rfl) rfl ?_
        refine aa_cons ?_ aa_nil
        refine aone_enter (listed' := #[true, true, true, false, false, false]) (f := 16) (d := 15) (A := [.one (.c (.sl 13 ((xs).map eReply)))]) (st1 := mk 33 [(0, .one (.c (.sl 13 ((xs).map eReply)))), (3, .one (.pl [(3, 0)] 0 0)), (15, .one (.c (.sl 13 ((toReplyS xs).map eReply)))), (16, .agg [.c (iC q.c), .c (iC q.e), .c (iC q.n)])] [(3, [.bx [iC q.c, iC q.e, iC q.n]])]) [0, 3, 15, 16] (ok16 xs (by omega) (hok)) Try.call16 (by kernel_rfl) (by kernel_rfl) (by kernel_rfl) (by kernel_rfl) ?_
        refine aa_all [3] (by kernel_rfl) rfl ?_
        refine aa_cons ?_ aa_nil
        refine aone_enter (listed' := #[true, true, true, true, false, false]) (f := 17) (d := 17) (A := [.agg [.c (iC q.c), .c (iC q.e), .c (iC q.n)]]) (st1 := mk 33 [(0, .one (.c (.sl 13 ((xs).map eReply)))), (3, .one (.pl [(3, 0)] 0 0)), (15, .one (.c (.sl 13 ((toReplyS xs).map eReply)))), (17, .agg [.c (iC ((toTx q).c)), .c (iC ((toTx q).e)), .c (iC ((toTx q).n))])] [(3, [.bx [iC q.c, iC q.e, iC q.n]])]) [0, 3, 15, 17] (ok17 q) Try.call17 (by kernel_rfl) (by kernel_rfl) (by kernel_rfl) (by kernel_rfl) ?_
        refine aa_all [4] (by kernel_rfl) rfl ?_
        refine aa_cons ?_ aa_nil
        refine aone_enter (listed' := #[true, true, true, true, true, false]) (f := 20) (d := 18) (A := [.one (.c (.sl 13 ((toReplyS xs).map eReply))), .agg [.c (iC ((toTx q).c)), .c (iC ((toTx q).e)), .c (iC ((toTx q).n))]]) (st1 := mk 33 [(0, .one (.c (.sl 13 ((xs).map eReply)))), (3, .one (.pl [(3, 0)] 0 0)), (18, iV (outcome (toReplyS xs) (toTx q)))] [(3, [.bx [iC q.c, iC q.e, iC q.n]])]) [0, 3, 18] (ok20 (toReplyS xs) (toTx q) (by rw [toReplyS]; omega)) Try.call20 (by kernel_rfl) (by kernel_rfl) (by kernel_rfl) (by kernel_rfl) ?_
        refine aa_take (fuel := 0) (listed' := #[true, true, true, true, true, true]) (st' := mk 33 [(0, .one (.c (.sl 13 ((xs).map eReply)))), (3, .one (.pl [(3, 0)] 0 0)), (6, iV (outcome (toReplyS xs) (toTx q)))] [(3, [.bx [iC q.c, iC q.e, iC q.n]])]) [5] [0, 3, 6] tyOK (by kernel_rfl) (by kernel_rfl) (by kernel_rfl) ?_
        refine aa_done (by kernel_rfl) ?_
        show _ = _; kernel_rfl
      refine a_seq ?_
      refine a_ops [0, 1, 2] (by kernel_rfl) ?_
      refine ao_some [0] [1, 2] [0, 3, 6, 19] tyOK (st1 := mk 33 [(0, .one (.c (.sl 13 ((xs).map eReply)))), (3, .one (.pl [(3, 0)] 0 0)), (6, iV (outcome (toReplyS xs) (toTx q))), (19, .one (.c (.sl 13 ((xs).map eReply))))] [(3, [.bx [iC q.c, iC q.e, iC q.n]])]) (by kernel_rfl) ?_
      refine ao_enter (f := 16) (d := 20) (A := [.one (.c (.sl 13 ((xs).map eReply)))]) (st1 := mk 33 [(0, .one (.c (.sl 13 ((xs).map eReply)))), (3, .one (.pl [(3, 0)] 0 0)), (6, iV (outcome (toReplyS xs) (toTx q))), (20, .one (.c (.sl 13 ((toReplyS xs).map eReply))))] [(3, [.bx [iC q.c, iC q.e, iC q.n]])]) [0, 3, 6, 20] (ok16 xs (by omega) (hok)) Try.call16 (by kernel_rfl) (by kernel_rfl) (by kernel_rfl) ?_
      refine ao_some [2] [] [0, 3, 6, 7] tyOK (st1 := mk 33 [(0, .one (.c (.sl 13 ((xs).map eReply)))), (3, .one (.pl [(3, 0)] 0 0)), (6, iV (outcome (toReplyS xs) (toTx q))), (7, .one (.c (.sl 13 ((toReplyS xs).map eReply))))] [(3, [.bx [iC q.c, iC q.e, iC q.n]])]) (by kernel_rfl) ?_
      refine ao_nil ?_
      refine a_seq ?_
      refine a_ops [0, 1, 2, 3, 4] (by kernel_rfl) ?_
      refine ao_some [0, 1] [2, 3, 4] [0, 6, 7, 21, 22] tyOK (st1 := mk 33 [(0, .one (.c (.sl 13 ((xs).map eReply)))), (6, iV (outcome (toReplyS xs) (toTx q))), (7, .one (.c (.sl 13 ((toReplyS xs).map eReply)))), (21, .one (.c (.sl 13 ((toReplyS xs).map eReply)))), (22, .agg [.c (iC q.c), .c (iC q.e), .c (iC q.n)])] []) (by kernel_rfl) ?_
      refine ao_enter (f := 17) (d := 23) (A := [.agg [.c (iC q.c), .c (iC q.e), .c (iC q.n)]]) (st1 := mk 33 [(0, .one (.c (.sl 13 ((xs).map eReply)))), (6, iV (outcome (toReplyS xs) (toTx q))), (7, .one (.c (.sl 13 ((toReplyS xs).map eReply)))), (21, .one (.c (.sl 13 ((toReplyS xs).map eReply)))), (23, .agg [.c (iC ((toTx q).c)), .c (iC ((toTx q).e)), .c (iC ((toTx q).n))])] []) [0, 6, 7, 21, 23] (ok17 q) Try.call17 (by kernel_rfl) (by kernel_rfl) (by kernel_rfl) ?_
      refine ao_enter (f := 21) (d := 24) (A := [.one (.c (.sl 13 ((toReplyS xs).map eReply))), .agg [.c (iC ((toTx q).c)), .c (iC ((toTx q).e)), .c (iC ((toTx q).n))]]) (st1 := mk 33 [(0, .one (.c (.sl 13 ((xs).map eReply)))), (6, iV (outcome (toReplyS xs) (toTx q))), (7, .one (.c (.sl 13 ((toReplyS xs).map eReply)))), (24, iV (outcome (toReplyS xs) (toTx q)))] []) [0, 6, 7, 24] (ok21 (toReplyS xs) (toTx q) (by rw [toReplyS]; omega)) Try.call21 (by kernel_rfl) (by kernel_rfl) (by kernel_rfl) ?_
      refine ao_some [4] [] [0, 6, 7, 8] tyOK (st1 := mk 33 [(0, .one (.c (.sl 13 ((xs).map eReply)))), (6, iV (outcome (toReplyS xs) (toTx q))), (7, .one (.c (.sl 13 ((toReplyS xs).map eReply)))), (8, iV (outcome (toReplyS xs) (toTx q)))] []) (by kernel_rfl) ?_
      refine ao_nil ?_
      refine a_seq ?_
      refine a_seq ?_
      refine a_run [0, 7, 27] tyOK (st1 := mk 33 [(0, .one (.c (.sl 13 ((xs).map eReply)))), (7, .one (.c (.sl 13 ((toReplyS xs).map eReply)))), (27, bV (((outcome (toReplyS xs) (toTx q)) != (outcome (toReplyS xs) (toTx q)))))] []) (by kernel_rfl) ?_
      refine a_cond (b := ((outcome (toReplyS xs) (toTx q)) != (outcome (toReplyS xs) (toTx q)))) (by kernel_rfl) (fun h2 => ?_) (fun h2 => ?_)
      · have g2 := h2
        try simp only [decide_eq_true_eq, decide_eq_false_iff_not, List.length_map, bne_iff_ne, bne_eq_false_iff_eq, beq_iff_eq, beq_eq_false_iff_ne, Bool.not_eq_true, Bool.not_eq_false, Bool.not_eq_true'] at g2
        refine a_seq ?_
        refine a_run [4] tyOK (st1 := mk 33 [(4, bV false)] []) (by kernel_rfl) ?_
        refine a_ret ?_
        have e : lawOutcome xs q = false := by
            simp at h2
        exact end_eq (res' := bV false) (by kernel_rfl) (by rw [e])
      · have g2 := h2
        try simp only [decide_eq_true_eq, decide_eq_false_iff_not, List.length_map, bne_iff_ne, bne_eq_false_iff_eq, beq_iff_eq, beq_eq_false_iff_ne, Bool.not_eq_true, Bool.not_eq_false, Bool.not_eq_true'] at g2
        refine a_skip ?_
        refine a_seq ?_
        refine a_seq ?_
        refine a_ops [0, 1, 2, 3, 4] (by kernel_rfl) ?_
        refine ao_some [0, 1] [2, 3, 4] [28, 29] tyOK (st1 := mk 33 [(28, .one (.c (.sl 13 ((toReplyS xs).map eReply)))), (29, .one (.c (.sl 13 ((xs).map eReply))))] []) (by kernel_rfl) ?_
        refine ao_enter (f := 16) (d := 30) (A := [.one (.c (.sl 13 ((xs).map eReply)))]) (st1 := mk 33 [(28, .one (.c (.sl 13 ((toReplyS xs).map eReply)))), (30, .one (.c (.sl 13 ((toReplyS xs).map eReply))))] []) [28, 30] (ok16 xs (by omega) (hok)) Try.call16 (by kernel_rfl) (by kernel_rfl) (by kernel_rfl) ?_
        refine ao_enter (f := 19) (d := 31) (A := [.one (.c (.sl 13 ((toReplyS xs).map eReply))), .one (.c (.sl 13 ((toReplyS xs).map eReply)))]) (st1 := mk 33 [(31, bV (eqReplyS (toReplyS xs) (toReplyS xs)))] []) [31] (ok19 (toReplyS xs) (toReplyS xs) (by rw [toReplyS]; omega) (hok)) Try.call19 (by kernel_rfl) (by kernel_rfl) (by kernel_rfl) ?_
        refine ao_some [4] [] [32] tyOK (st1 := mk 33 [(32, bV (!(eqReplyS (toReplyS xs) (toReplyS xs))))] []) (by kernel_rfl) ?_
        refine ao_nil ?_
        refine a_cond (b := !(eqReplyS (toReplyS xs) (toReplyS xs))) (by kernel_rfl) (fun h3 => ?_) (fun h3 => ?_)
        · have g3 := h3
          try simp only [decide_eq_true_eq, decide_eq_false_iff_not, List.length_map, bne_iff_ne, bne_eq_false_iff_eq, beq_iff_eq, beq_eq_false_iff_ne, Bool.not_eq_true, Bool.not_eq_false, Bool.not_eq_true'] at g3
          refine a_seq ?_
          refine a_run [4] tyOK (st1 := mk 33 [(4, bV false)] []) (by kernel_rfl) ?_
          refine a_ret ?_
          have e : lawOutcome xs q = false := by
              rw [eqReplyS, eqL_self eqReply_self] at h3; simp at h3
          exact end_eq (res' := bV false) (by kernel_rfl) (by rw [e])
        · have g3 := h3
          try simp only [decide_eq_true_eq, decide_eq_false_iff_not, List.length_map, bne_iff_ne, bne_eq_false_iff_eq, beq_iff_eq, beq_eq_false_iff_ne, Bool.not_eq_true, Bool.not_eq_false, Bool.not_eq_true'] at g3
          refine a_skip ?_
          refine a_seq ?_
          refine a_run [4] tyOK (st1 := mk 33 [(4, bV true)] []) (by kernel_rfl) ?_
          refine a_ret ?_
          have e : lawOutcome xs q = true := by
              rfl
          exact end_eq (res' := bV true) (by kernel_rfl) (by rw [e])

end Go.Proofs.Ytijmnochaamllaa
namespace Go.Proofs.Ytijmnochaamllaa.Row3
open Go.ChangeShapes Go.WideShapes Go.ChangeAt Go.RowKit Go.Mv
open Go.ChangeMaps (open_string shut_string)
theorem own : ownKnob Try.prog.godebug = none := by kernel_rfl
theorem laidOut : laidOutB Try.prog = true := by kernel_rfl
set_option maxRecDepth 100000 in
theorem opens3 : Opens Try.prog 3 (fun n : Int => [.v (.int .i64 n)]) (fun n => (Lit.int .i64 n).wf = true) := opens_int Try.underlying3
set_option maxRecDepth 100000 in
theorem opens4 : Opens Try.prog 4 (fun b : Bool => [bC b]) (fun _ => True) := opens_bool Try.underlying4
set_option maxRecDepth 100000 in
theorem opens9 : Opens Try.prog 9 (fun s : ByteArray => [sC s]) (fun s => s.size ≤ 140737488351232) := opens_string Try.underlying9
set_option maxRecDepth 100000 in
theorem opens41 : Opens Try.prog 41 eRange (fun _ => True) :=
  opens_struct Try.underlying41 (fun H enc W fuel cs h1 h2 => by
    obtain ⟨y, k1, k2⟩ := (opensF_cons (P := Try.prog) (off := 0) (fs := [(1, 9)]) opens9 (by kernel_rfl : Try.prog.cellsOf 9 = 1) (opensF_cons (P := Try.prog) (off := 1) (fs := []) opens9 (by kernel_rfl : Try.prog.cellsOf 9 = 1) (opensF_nil))) H enc W fuel cs h1 h2
    exact ⟨⟨y.1, y.2.1⟩, by simpa [eRange] using k1, by trivial⟩) (by kernel_rfl)
set_option maxRecDepth 100000 in
theorem opens31 : Opens Try.prog 31 eTx (fun _ => True) :=
  opens_struct Try.underlying31 (fun H enc W fuel cs h1 h2 => by
    obtain ⟨y, k1, k2⟩ := (opensF_cons (P := Try.prog) (off := 0) (fs := [(1, 3), (2, 3)]) opens3 (by kernel_rfl : Try.prog.cellsOf 3 = 1) (opensF_cons (P := Try.prog) (off := 1) (fs := [(2, 3)]) opens3 (by kernel_rfl : Try.prog.cellsOf 3 = 1) (opensF_cons (P := Try.prog) (off := 2) (fs := []) opens3 (by kernel_rfl : Try.prog.cellsOf 3 = 1) (opensF_nil)))) H enc W fuel cs h1 h2
    exact ⟨⟨y.1, y.2.1, y.2.2.1⟩, by simpa [eTx] using k1, by trivial⟩) (by kernel_rfl)
set_option maxRecDepth 100000 in
theorem opens43 : Opens Try.prog 43 eAsk (fun _ => True) :=
  opens_struct Try.underlying43 (fun H enc W fuel cs h1 h2 => by
    obtain ⟨y, k1, k2⟩ := (opensF_cons (P := Try.prog) (off := 0) (fs := [(1, 9), (2, 9), (3, 41), (5, 3), (6, 4)]) opens3 (by kernel_rfl : Try.prog.cellsOf 3 = 1) (opensF_cons (P := Try.prog) (off := 1) (fs := [(2, 9), (3, 41), (5, 3), (6, 4)]) opens9 (by kernel_rfl : Try.prog.cellsOf 9 = 1) (opensF_cons (P := Try.prog) (off := 2) (fs := [(3, 41), (5, 3), (6, 4)]) opens9 (by kernel_rfl : Try.prog.cellsOf 9 = 1) (opensF_cons (P := Try.prog) (off := 3) (fs := [(5, 3), (6, 4)]) opens41 (by kernel_rfl : Try.prog.cellsOf 41 = 2) (opensF_cons (P := Try.prog) (off := 5) (fs := [(6, 4)]) opens3 (by kernel_rfl : Try.prog.cellsOf 3 = 1) (opensF_cons (P := Try.prog) (off := 6) (fs := []) opens4 (by kernel_rfl : Try.prog.cellsOf 4 = 1) (opensF_nil))))))) H enc W fuel cs h1 h2
    exact ⟨⟨y.1, y.2.1, y.2.2.1, y.2.2.2.1, y.2.2.2.2.1, y.2.2.2.2.2.1⟩, by simpa [eAsk, eRange] using k1, by trivial⟩) (by kernel_rfl)
set_option maxRecDepth 100000 in
theorem opens83 : Opens Try.prog 83 ePair (fun _ => True) :=
  opens_struct Try.underlying83 (fun H enc W fuel cs h1 h2 => by
    obtain ⟨y, k1, k2⟩ := (opensF_cons (P := Try.prog) (off := 0) (fs := [(1, 9)]) opens9 (by kernel_rfl : Try.prog.cellsOf 9 = 1) (opensF_cons (P := Try.prog) (off := 1) (fs := []) opens9 (by kernel_rfl : Try.prog.cellsOf 9 = 1) (opensF_nil))) H enc W fuel cs h1 h2
    exact ⟨⟨y.1, y.2.1⟩, by simpa [ePair] using k1, by trivial⟩) (by kernel_rfl)
set_option maxRecDepth 100000 in
theorem opens22 : Opens Try.prog 22 (fun xs : List Pair => [.sl 2 (xs.map ePair)]) (fun xs => xs.length * 32 ≤ 140737488351232 ∧ ∀ x ∈ xs, (fun _ => True) x) := opens_slice Try.underlying22 (by kernel_rfl) (by kernel_rfl) (by decide) opens83
set_option maxRecDepth 100000 in
theorem opens45 : Opens Try.prog 45 eReply okReply :=
  opens_struct Try.underlying45 (fun H enc W fuel cs h1 h2 => by
    obtain ⟨y, k1, k2⟩ := (opensF_cons (P := Try.prog) (off := 0) (fs := [(1, 31), (4, 43), (11, 3), (12, 22)]) opens3 (by kernel_rfl : Try.prog.cellsOf 3 = 1) (opensF_cons (P := Try.prog) (off := 1) (fs := [(4, 43), (11, 3), (12, 22)]) opens31 (by kernel_rfl : Try.prog.cellsOf 31 = 3) (opensF_cons (P := Try.prog) (off := 4) (fs := [(11, 3), (12, 22)]) opens43 (by kernel_rfl : Try.prog.cellsOf 43 = 7) (opensF_cons (P := Try.prog) (off := 11) (fs := [(12, 22)]) opens3 (by kernel_rfl : Try.prog.cellsOf 3 = 1) (opensF_cons (P := Try.prog) (off := 12) (fs := []) opens22 (by kernel_rfl : Try.prog.cellsOf 22 = 1) (opensF_nil)))))) H enc W fuel cs h1 h2
    exact ⟨⟨y.1, y.2.1, y.2.2.1, y.2.2.2.1, y.2.2.2.2.1⟩, by simpa [eAsk, eRange, eReply, eTx] using k1, by (unfold okReply; exact k2.2.2.2.2.1.1)⟩) (by kernel_rfl)
set_option maxRecDepth 100000 in
theorem opens29 : Opens Try.prog 29 (fun xs : List Reply => [.sl 13 (xs.map eReply)]) (fun xs => xs.length * 152 ≤ 140737488351232 ∧ ∀ x ∈ xs, okReply x) := opens_slice Try.underlying29 (by kernel_rfl) (by kernel_rfl) (by decide) opens45
set_option maxRecDepth 100000 in
theorem lifted (os : Os) (started : os.Started) (H : Type) (enc : TypeId × Value → H) :
    ReturnsInHanded {} Try.checked os 5 .any (Rows.fnExactOutcomeSpec.pre6 enc Try.prog Try.f5 Rows.fnExactOutcomeRow.domain false) (Rows.fnExactOutcomeSpec.post enc Try.prog Try.f5 false true false false) := by
  refine returnsInHanded_of_change_sized (C := Try.checked) own started (by kernel_rfl) Try.func5
    (ChangeSpec.witness6 (enc := enc) (C := Try.checked) false ⟨#[], #[.slice none 0 0, .agg #[.int .i64 0, .int .i64 0, .int .i64 0]], []⟩ 8 (by kernel_rfl) (by kernel_rfl) (by kernel_rfl) (by kernel_rfl)) ?_
  intro W base args ds gs before hval0 hW hcnd hsz0 _
  have hsz : (DataW.weightsEach Try.prog (Try.f5.params.toList ++ Rows.fnExactOutcomeSpec.plain.varTypes Try.prog) (ds ++ gs)).all (· ≤ reachBytes) = true := hsz0
  have hval : ∀ (j : Nat) t v, Try.f5.params[j]? = some t → args[j]? = some v → Value.okWide Try.prog W .any base t v := hval0
  have hW' := hW
  obtain ⟨p, q, hA0, hV, rfl, hfz, hnd⟩ := hW
  have hA : DataW.TrodAll enc Try.prog W 0 (fun _ => true) true Try.f5.params.toList args.toList ds p := hA0
  rw [Try.params5] at hA hval hsz
  obtain ⟨v0, vs0, d0, ds0, p0, q0, hargs, rfl, rfl, h0, r0⟩ := trodAll_cons hA
  obtain ⟨v1, vs1, d1, ds1, p1, q1, rfl, rfl, rfl, h1, r1⟩ := trodAll_cons r0
  obtain ⟨rfl, rfl, rfl⟩ := trodAll_nil r1
  obtain rfl : args = #[v0, v1] := by cases args; simp_all
  obtain ⟨rfl, rfl⟩ := trodVars_none hV
  have k0 := h0
  have lt0 : ∀ x ∈ p0, x.block < W.heap.size := by obtain ⟨m, hm⟩ := k0; exact DataW.trod_lt m _ _ _ hm
  have wt0 : ∀ n ∈ d0.weights Try.prog 29, n ≤ 140737488351232 := fun n hn => by have := List.all_eq_true.1 hsz n (DataW.weights_mem_each (j := 0) (t := 29) rfl rfl n hn); exact of_decide_eq_true this
  obtain ⟨a0, len0, cap0, rfl⟩ := okWide_slice Try.underlying29 (hval 0 29 v0 rfl rfl)
  obtain ⟨m0, hf0⟩ := h0
  obtain ⟨y0, z0, o0⟩ := opens29 H enc W m0 _ _ hf0 wt0
  have tv0 : TVVal W (fun b => b < W.heap.size) (fun _ => none) (.one (.c (.sl 13 ((y0).map eReply)))) (.slice a0 len0 cap0) := by cases z0 with | cons h _ => exact h
  have k1 := h1
  have lt1 : ∀ x ∈ p1, x.block < W.heap.size := by obtain ⟨m, hm⟩ := k1; exact DataW.trod_lt m _ _ _ hm
  have wt1 : ∀ n ∈ d1.weights Try.prog 31, n ≤ 140737488351232 := fun n hn => by have := List.all_eq_true.1 hsz n (DataW.weights_mem_each (j := 1) (t := 31) rfl rfl n hn); exact of_decide_eq_true this
  obtain ⟨c1, e1, _, _⟩ : ∃ cs, v1 = .agg cs ∧ cs.size = _ ∧ _ := by have := (hval 1 31 v1 rfl rfl); simpa only [Value.okWide, Try.underlying31] using this
  subst e1
  obtain ⟨m1, hf1⟩ := h1
  obtain ⟨y1, z1, o1⟩ := opens31 H enc W m1 _ _ hf1 wt1
  have tv1 : TVVal W (fun b => b < W.heap.size) (fun _ => none) (.agg [.c (iC y1.c), .c (iC y1.e), .c (iC y1.n)]) (.agg c1) := ⟨c1.toList, by simp, RepFs.told z1⟩
  clear hA0 hval0 hsz0
  refine (ok5 y0 y1 (o0.1) (o0.2) W (fun b => b < W.heap.size) [.slice a0 len0 cap0, .agg c1] (fun b hb => hb) (.cons tv0 (.cons tv1 .nil))).mono fun e W' ⟨v, he, ret⟩ => ?_
  subst he
  obtain ⟨bel, _, _, _, _, _, _, hv, _⟩ := ret
  have hv := one_v hv
  subst hv
  exact ⟨_, rfl, _, _, _, [], _, [], hW', trodAll_mk1 (shut_bool Try.underlying4 _), (trodAll_cons_mk (Below.trod laidOut (by kernel_rfl) (of_decide_eq_true (by kernel_rfl)) k0 bel lt0) (trodAll_cons_mk (Below.trod laidOut (by kernel_rfl) (of_decide_eq_true (by kernel_rfl)) k1 bel lt1) trodAll_mk0)), rfl, bel.frame _, fun h => by cases h⟩
theorem over : Rows.fnExactOutcomeRow.holds Try.pinned (OpenSpec.ofChange Rows.fnExactOutcomeSpec) :=
  OpenClaim.holds_of_wide 5 Try.f5 rfl rfl rfl rfl rfl rfl rfl ⟨rfl, rfl, rfl, rfl, rfl⟩ rfl rfl rfl rfl rfl (by kernel_rfl) Try.func5 (by kernel_rfl)
    (of_decide_eq_true (by kernel_rfl)) (by unfold Func.isWrapper; first | (rw [if_pos (by decide +kernel)]; kernel_rfl) | (rw [if_neg (by decide +kernel)]; exact ⟨rfl, rfl⟩))
    (fun os started H enc _ => lifted os started H enc)
theorem proved : Rows.FnExactOutcomeSaid := over
end Go.Proofs.Ytijmnochaamllaa.Row3
