/- What functions of the given program compute, each proved once, for the law that is proved in YtijmnochaamllaaLockAsk: whatever their arguments, under the conditions that each theorem names. -/
import Derived.Test.YtijmnochaamllaaLockAskPartB
set_option linter.unusedVariables false
set_option linter.unusedSimpArgs false
namespace Go.Proofs.Ytijmnochaamllaa
open Go.Mv Go.RowKit
noncomputable def i_isFree_c1 (p0 : Lock) (q0 : Lock) : Option (Bool) :=
 bnd (i_clash q0 p0) fun r1 =>
 some r1
set_option maxHeartbeats 4000000 in
/-- impl.isFree$1 -/
theorem k_i_isFree_c1 (p0 : Lock) (q0 : Lock) (v : Bool) (h : i_isFree_c1 p0 q0 = some v) : CallOK Try.prog 106 [.agg [.c (iC p0.tx.c), .c (iC p0.tx.e), .c (iC p0.tx.n), .c (sC p0.range.lo), .c (sC p0.range.hi), .c (bC p0.ex)], .one (.c (.bx [iC q0.tx.c, iC q0.tx.e, iC q0.tx.n, sC q0.range.lo, sC q0.range.hi, bC q0.ex]))] (bV v) [] :=
  callOK tyOK Try.func106 rfl fun w S hS => by
    unfold i_isFree_c1 at h
    refine a_seq ?_
    refine a_run [1, 2] tyOK (st1 := mk 7 [(1, .one (.c (.bx [iC q0.tx.c, iC q0.tx.e, iC q0.tx.n, sC q0.range.lo, sC q0.range.hi, bC q0.ex]))), (2, .one (.pl [(2, 0)] 0 0))] [(2, [.bx [iC p0.tx.c, iC p0.tx.e, iC p0.tx.n, sC p0.range.lo, sC p0.range.hi, bC p0.ex]])]) (by kernel_rfl) ?_
    refine a_seq ?_
    refine a_ops [0, 1, 2, 3] (by kernel_rfl) ?_
    refine ao_some [0, 1] [2, 3] [4, 5] tyOK (st1 := mk 7 [(4, .agg [.c (iC q0.tx.c), .c (iC q0.tx.e), .c (iC q0.tx.n), .c (sC q0.range.lo), .c (sC q0.range.hi), .c (bC q0.ex)]), (5, .agg [.c (iC p0.tx.c), .c (iC p0.tx.e), .c (iC p0.tx.n), .c (sC p0.range.lo), .c (sC p0.range.hi), .c (bC p0.ex)])] []) (by kernel_rfl) ?_
    obtain ⟨r1, er1, h⟩ := bnd_e h
    refine ao_enter (f := 107) (d := 6) (A := [.agg [.c (iC q0.tx.c), .c (iC q0.tx.e), .c (iC q0.tx.n), .c (sC q0.range.lo), .c (sC q0.range.hi), .c (bC q0.ex)], .agg [.c (iC p0.tx.c), .c (iC p0.tx.e), .c (iC p0.tx.n), .c (sC p0.range.lo), .c (sC p0.range.hi), .c (bC p0.ex)]]) (st1 := mk 7 [(6, bV r1)] []) [6] (k_i_clash q0 p0 r1 er1) Try.call107 (by kernel_rfl) (by kernel_rfl) (by kernel_rfl) ?_
    refine ao_some [3] [] [3] tyOK (st1 := mk 7 [(3, bV r1)] []) (by kernel_rfl) ?_
    refine ao_nil ?_
    refine a_ret ?_
    obtain rfl := Option.some.inj h
    exact end_eq (res' := bV r1) (by kernel_rfl) (by first | rfl | simp)

noncomputable def Bsl_IndexFunc_Lock_i_isFree_c1_1 (p0 : (List Lock)) (q0 : Lock) (s1 : Int) : Option (Int ⊕ (Unit ⊕ (Int))) :=
 bif (decide (s1 < (((((p0).map eLock).length : Nat) : Int)))) then
 (bnd (getI p0 s1) fun x1 =>
 bnd (i_isFree_c1 x1 q0) fun r1 =>
 bif r1 then
 (some (.inr (.inr s1)))
 else
 (some (.inl (IntKind.wrap .i64 (s1 + 1)))))
 else
 (some (.inr (.inl (()))))

noncomputable def sl_IndexFunc_Lock_i_isFree_c1 (p0 : (List Lock)) (q0 : Lock) : Option (Int) :=
 bndS (loopT (Bsl_IndexFunc_Lock_i_isFree_c1_1 p0 q0) 0) fun j1 =>
 some (-1)
set_option maxHeartbeats 4000000 in
/-- slices.IndexFunc[[]impl.Lock,impl.Lock] -/
theorem k_sl_IndexFunc_Lock_i_isFree_c1 (p0 : (List Lock)) (q0 : Lock) (v : Int) (h : sl_IndexFunc_Lock_i_isFree_c1 p0 q0 = some v) : CallOK Try.prog 116 [.one (.c (.sl 6 ((p0).map eLock))), .one (.c (.fn 106 [.bx [iC q0.tx.c, iC q0.tx.e, iC q0.tx.n, sC q0.range.lo, sC q0.range.hi, bC q0.ex]]))] (iV v) [] :=
  callOK tyOK Try.func116 rfl fun w S hS => by
    unfold sl_IndexFunc_Lock_i_isFree_c1 at h
    refine a_seq ?_
    refine a_run [0, 1] tyOK (st1 := mk 19 [(0, .one (.c (.sl 6 ((p0).map eLock)))), (1, .one (.c (.fn 106 [.bx [iC q0.tx.c, iC q0.tx.e, iC q0.tx.n, sC q0.range.lo, sC q0.range.hi, bC q0.ex]])))] []) (by kernel_rfl) ?_
    refine a_seq ?_
    refine a_seq ?_
    refine a_run [0, 1, 7, 8] tyOK (st1 := mk 19 [(0, .one (.c (.sl 6 ((p0).map eLock)))), (1, .one (.c (.fn 106 [.bx [iC q0.tx.c, iC q0.tx.e, iC q0.tx.n, sC q0.range.lo, sC q0.range.hi, bC q0.ex]]))), (7, iV (((((p0).map eLock).length : Nat) : Int))), (8, iV 0)] []) (by kernel_rfl) ?_
    obtain ⟨y1, h, ky1, zy1⟩ := bndS_e h
    refine a_joinT (ι := Unit) (fun j => mk 19 [] []) (fun j => y1 = .inl j) ?_ ?_
    · refine a_block ?_
      refine a_loopT (Bsl_IndexFunc_Lock_i_isFree_c1_1 p0 q0) (fun s1 => mk 19 [(0, .one (.c (.sl 6 ((p0).map eLock)))), (1, .one (.c (.fn 106 [.bx [iC q0.tx.c, iC q0.tx.e, iC q0.tx.n, sC q0.range.lo, sC q0.range.hi, bC q0.ex]]))), (7, iV (((((p0).map eLock).length : Nat) : Int))), (8, iV s1)] []) 0 h ?_ ?_
      · exact imp_keepTo [0, 1, 7, 8] (by kernel_rfl) (imp_done rfl)
      intro s1 y2 h zy2
      unfold Bsl_IndexFunc_Lock_i_isFree_c1_1 at h
      refine a_seq ?_
      refine a_run [0, 1, 7, 8, 9] tyOK (st1 := mk 19 [(0, .one (.c (.sl 6 ((p0).map eLock)))), (1, .one (.c (.fn 106 [.bx [iC q0.tx.c, iC q0.tx.e, iC q0.tx.n, sC q0.range.lo, sC q0.range.hi, bC q0.ex]]))), (7, iV (((((p0).map eLock).length : Nat) : Int))), (8, iV s1), (9, bV (decide (s1 < (((((p0).map eLock).length : Nat) : Int)))))] []) (by kernel_rfl) ?_
      refine a_seq ?_
      refine a_cond (b := decide (s1 < (((((p0).map eLock).length : Nat) : Int)))) (by kernel_rfl) (fun h1 => ?_) (fun h1 => ?_)
      · replace h := cT h1 h
        refine a_skip ?_
        refine a_seq ?_
        refine a_block ?_
        refine a_seq ?_
        refine a_run [0, 1, 5, 7, 8] tyOK (st1 := mk 19 [(0, .one (.c (.sl 6 ((p0).map eLock)))), (1, .one (.c (.fn 106 [.bx [iC q0.tx.c, iC q0.tx.e, iC q0.tx.n, sC q0.range.lo, sC q0.range.hi, bC q0.ex]]))), (5, iV s1), (7, iV (((((p0).map eLock).length : Nat) : Int))), (8, iV s1)] []) (by kernel_rfl) ?_
        refine a_seq ?_
        refine a_ops [0, 1, 2, 3, 4, 5] (by kernel_rfl) ?_
        refine ao_some [0, 1, 2] [3, 4, 5] [0, 1, 5, 7, 8, 11, 12, 13] tyOK (st1 := mk 19 [(0, .one (.c (.sl 6 ((p0).map eLock)))), (1, .one (.c (.fn 106 [.bx [iC q0.tx.c, iC q0.tx.e, iC q0.tx.n, sC q0.range.lo, sC q0.range.hi, bC q0.ex]]))), (5, iV s1), (7, iV (((((p0).map eLock).length : Nat) : Int))), (8, iV s1), (11, .one (.c (.fn 106 [.bx [iC q0.tx.c, iC q0.tx.e, iC q0.tx.n, sC q0.range.lo, sC q0.range.hi, bC q0.ex]]))), (12, .one (.c (.sl 6 ((p0).map eLock)))), (13, iV s1)] []) (by kernel_rfl) ?_
        obtain ⟨x1, ex1, h⟩ := bnd_e h
        refine ao_index (d := 14) (size := 6) (n := s1) (rows := (p0).map eLock) (st1 := mk 19 [(0, .one (.c (.sl 6 ((p0).map eLock)))), (1, .one (.c (.fn 106 [.bx [iC q0.tx.c, iC q0.tx.e, iC q0.tx.n, sC q0.range.lo, sC q0.range.hi, bC q0.ex]]))), (5, iV s1), (7, iV (((((p0).map eLock).length : Nat) : Int))), (8, iV s1), (11, .one (.c (.fn 106 [.bx [iC q0.tx.c, iC q0.tx.e, iC q0.tx.n, sC q0.range.lo, sC q0.range.hi, bC q0.ex]]))), (14, .one (.fp [iC x1.tx.c, iC x1.tx.e, iC x1.tx.n, sC x1.range.lo, sC x1.range.hi, bC x1.ex] 0))] []) (eLock x1) [0, 1, 5, 7, 8, 11, 14] tyOK (by kernel_rfl) (getI_e ex1).1 (show ((p0).map eLock)[_]? = some _ from by rw [List.getElem?_map, (getI_e ex1).2]; rfl) (by kernel_rfl) (by kernel_rfl) ?_
        refine ao_some [4] [5] [0, 1, 5, 7, 8, 11, 15] tyOK (st1 := mk 19 [(0, .one (.c (.sl 6 ((p0).map eLock)))), (1, .one (.c (.fn 106 [.bx [iC q0.tx.c, iC q0.tx.e, iC q0.tx.n, sC q0.range.lo, sC q0.range.hi, bC q0.ex]]))), (5, iV s1), (7, iV (((((p0).map eLock).length : Nat) : Int))), (8, iV s1), (11, .one (.c (.fn 106 [.bx [iC q0.tx.c, iC q0.tx.e, iC q0.tx.n, sC q0.range.lo, sC q0.range.hi, bC q0.ex]]))), (15, .agg [.c (iC x1.tx.c), .c (iC x1.tx.e), .c (iC x1.tx.n), .c (sC x1.range.lo), .c (sC x1.range.hi), .c (bC x1.ex)])] []) (by kernel_rfl) ?_
        obtain ⟨r1, er1, h⟩ := bnd_e h
        refine ao_callv (f := 106) (d := 16) (A := [.agg [.c (iC x1.tx.c), .c (iC x1.tx.e), .c (iC x1.tx.n), .c (sC x1.range.lo), .c (sC x1.range.hi), .c (bC x1.ex)], .one (.c (.bx [iC q0.tx.c, iC q0.tx.e, iC q0.tx.n, sC q0.range.lo, sC q0.range.hi, bC q0.ex]))]) (A' := [.agg [.c (iC x1.tx.c), .c (iC x1.tx.e), .c (iC x1.tx.n), .c (sC x1.range.lo), .c (sC x1.range.hi), .c (bC x1.ex)], .one (.c (.bx [iC q0.tx.c, iC q0.tx.e, iC q0.tx.n, sC q0.range.lo, sC q0.range.hi, bC q0.ex]))]) (st1 := mk 19 [(0, .one (.c (.sl 6 ((p0).map eLock)))), (1, .one (.c (.fn 106 [.bx [iC q0.tx.c, iC q0.tx.e, iC q0.tx.n, sC q0.range.lo, sC q0.range.hi, bC q0.ex]]))), (5, iV s1), (7, iV (((((p0).map eLock).length : Nat) : Int))), (8, iV s1), (16, bV r1)] []) [0, 1, 5, 7, 8, 16] (k_i_isFree_c1 x1 q0 r1 er1) Try.call106 (by kernel_rfl) (.cons (.agg (.cons (.same rfl) (.cons (.same rfl) (.cons (.same rfl) (.cons (.same rfl) (.cons (.same rfl) (.cons (.same rfl) .nil))))))) (.cons (.one (.same rfl)) .nil)) rfl (clean_nil) (by kernel_rfl) (by kernel_rfl) ?_
        refine ao_nil ?_
        refine a_cond (b := r1) (by kernel_rfl) (fun h2 => ?_) (fun h2 => ?_)
        · replace h := cT h2 h
          refine a_seq ?_
          refine a_run [4] tyOK (st1 := mk 19 [(4, iV s1)] []) (by kernel_rfl) ?_
          refine a_ret ?_
          obtain rfl := Option.some.inj h
          obtain rfl := zy2 _ rfl
          obtain rfl := zy1 _ rfl
          exact end_eq (res' := iV s1) (by kernel_rfl) (by first | rfl | simp)
        · replace h := cF h2 h
          refine a_skip ?_
          refine a_run [0, 1, 7, 8] tyOK (st1 := mk 19 [(0, .one (.c (.sl 6 ((p0).map eLock)))), (1, .one (.c (.fn 106 [.bx [iC q0.tx.c, iC q0.tx.e, iC q0.tx.n, sC q0.range.lo, sC q0.range.hi, bC q0.ex]]))), (7, iV (((((p0).map eLock).length : Nat) : Int))), (8, iV (IntKind.wrap .i64 (s1 + 1)))] []) (by kernel_rfl) ?_
          obtain rfl := Option.some.inj h
          show ∃ _, _ ∧ Imp _ _ _
          refine ⟨_, rfl, ?_⟩
          exact imp_keepTo [0, 1, 7, 8] (by kernel_rfl) (imp_done rfl)
      · replace h := cF h1 h
        refine a_exit ?_
        obtain rfl := Option.some.inj h
        obtain rfl := zy2 _ rfl
        show ∃ _, _ ∧ Imp _ _ _
        refine ⟨_, rfl, ?_⟩
        exact imp_keepTo [] (by kernel_rfl) (imp_done rfl)
    intro j1 hj1
    replace h := ky1 _ hj1
    refine a_seq ?_
    refine a_run [4] tyOK (st1 := mk 19 [(4, iV (-1))] []) (by kernel_rfl) ?_
    refine a_ret ?_
    obtain rfl := Option.some.inj h
    exact end_eq (res' := iV (-1)) (by kernel_rfl) (by first | rfl | simp)
noncomputable def sl_ContainsFunc_Lock_i_isFree_c1 (p0 : (List Lock)) (q0 : Lock) : Option (Bool) :=
 bnd (sl_IndexFunc_Lock_i_isFree_c1 p0 q0) fun r1 =>
 some (decide (r1 ≥ 0))
set_option maxHeartbeats 4000000 in
/-- slices.ContainsFunc[[]impl.Lock,impl.Lock] -/
theorem k_sl_ContainsFunc_Lock_i_isFree_c1 (p0 : (List Lock)) (q0 : Lock) (v : Bool) (h : sl_ContainsFunc_Lock_i_isFree_c1 p0 q0 = some v) : CallOK Try.prog 105 [.one (.c (.sl 6 ((p0).map eLock))), .one (.c (.fn 106 [.bx [iC q0.tx.c, iC q0.tx.e, iC q0.tx.n, sC q0.range.lo, sC q0.range.hi, bC q0.ex]]))] (bV v) [] :=
  callOK tyOK Try.func105 rfl fun w S hS => by
    unfold sl_ContainsFunc_Lock_i_isFree_c1 at h
    refine a_seq ?_
    refine a_run [0, 1] tyOK (st1 := mk 9 [(0, .one (.c (.sl 6 ((p0).map eLock)))), (1, .one (.c (.fn 106 [.bx [iC q0.tx.c, iC q0.tx.e, iC q0.tx.n, sC q0.range.lo, sC q0.range.hi, bC q0.ex]])))] []) (by kernel_rfl) ?_
    refine a_seq ?_
    refine a_ops [0, 1, 2, 3, 4] (by kernel_rfl) ?_
    refine ao_some [0, 1] [2, 3, 4] [5, 6] tyOK (st1 := mk 9 [(5, .one (.c (.sl 6 ((p0).map eLock)))), (6, .one (.c (.fn 106 [.bx [iC q0.tx.c, iC q0.tx.e, iC q0.tx.n, sC q0.range.lo, sC q0.range.hi, bC q0.ex]])))] []) (by kernel_rfl) ?_
    obtain ⟨r1, er1, h⟩ := bnd_e h
    refine ao_enter (f := 116) (d := 7) (A := [.one (.c (.sl 6 ((p0).map eLock))), .one (.c (.fn 106 [.bx [iC q0.tx.c, iC q0.tx.e, iC q0.tx.n, sC q0.range.lo, sC q0.range.hi, bC q0.ex]]))]) (st1 := mk 9 [(7, iV r1)] []) [7] (k_sl_IndexFunc_Lock_i_isFree_c1 p0 q0 r1 er1) Try.call116 (by kernel_rfl) (by kernel_rfl) (by kernel_rfl) ?_
    refine ao_some [3, 4] [] [4] tyOK (st1 := mk 9 [(4, bV (decide (r1 ≥ 0)))] []) (by kernel_rfl) ?_
    refine ao_nil ?_
    refine a_ret ?_
    obtain rfl := Option.some.inj h
    exact end_eq (res' := bV (decide (r1 ≥ 0))) (by kernel_rfl) (by first | rfl | simp)
noncomputable def Bi_isFree_1 (p0 : Lock) (p1 : (List (List Lock))) (s1 : Int) : Option (Int ⊕ (Unit ⊕ (Bool))) :=
 bif (decide (s1 < (((((p1).map (eSl 6 eLock)).length : Nat) : Int)))) then
 (bnd (getI p1 s1) fun x1 =>
 bnd (sl_ContainsFunc_Lock_i_isFree_c1 x1 p0) fun r1 =>
 bif r1 then
 (some (.inr (.inr false)))
 else
 (some (.inl (IntKind.wrap .i64 (s1 + 1)))))
 else
 (some (.inr (.inl (()))))

noncomputable def i_isFree (p0 : Lock) (p1 : (List (List Lock))) : Option (Bool) :=
 bndS (loopT (Bi_isFree_1 p0 p1) 0) fun j1 =>
 some true
set_option maxHeartbeats 4000000 in
/-- impl.isFree -/
theorem k_i_isFree (p0 : Lock) (p1 : (List (List Lock))) (v : Bool) (h : i_isFree p0 p1 = some v) : CallOK Try.prog 91 [.agg [.c (iC p0.tx.c), .c (iC p0.tx.e), .c (iC p0.tx.n), .c (sC p0.range.lo), .c (sC p0.range.hi), .c (bC p0.ex)], .one (.c (.sl 1 ((p1).map (eSl 6 eLock))))] (bV v) [] :=
  callOK tyOK Try.func91 rfl fun w S hS => by
    unfold i_isFree at h
    refine a_seq ?_
    refine a_run [1, 2] tyOK (st1 := mk 17 [(1, .one (.c (.sl 1 ((p1).map (eSl 6 eLock))))), (2, .one (.pl [(2, 0)] 0 0))] [(2, [.bx [iC p0.tx.c, iC p0.tx.e, iC p0.tx.n, sC p0.range.lo, sC p0.range.hi, bC p0.ex]])]) (by kernel_rfl) ?_
    refine a_seq ?_
    refine a_seq ?_
    refine a_run [2, 7, 8, 9] tyOK (st1 := mk 17 [(2, .one (.pl [(2, 0)] 0 0)), (7, .one (.c (.sl 1 ((p1).map (eSl 6 eLock))))), (8, iV (((((p1).map (eSl 6 eLock)).length : Nat) : Int))), (9, iV 0)] [(2, [.bx [iC p0.tx.c, iC p0.tx.e, iC p0.tx.n, sC p0.range.lo, sC p0.range.hi, bC p0.ex]])]) (by kernel_rfl) ?_
    obtain ⟨y1, h, ky1, zy1⟩ := bndS_e h
    refine a_joinT (ι := Unit) (fun j => mk 17 [] []) (fun j => y1 = .inl j) ?_ ?_
    · refine a_block ?_
      refine a_loopT (Bi_isFree_1 p0 p1) (fun s1 => mk 17 [(2, .one (.c (.bx [iC p0.tx.c, iC p0.tx.e, iC p0.tx.n, sC p0.range.lo, sC p0.range.hi, bC p0.ex]))), (7, .one (.c (.sl 1 ((p1).map (eSl 6 eLock))))), (8, iV (((((p1).map (eSl 6 eLock)).length : Nat) : Int))), (9, iV s1)] []) 0 h ?_ ?_
      · refine imp_freeze (fun _ _ h => h) [] 2 0 [2, 7, 8, 9] (s1 := mk 17 [(2, .one (.c (.bx [iC p0.tx.c, iC p0.tx.e, iC p0.tx.n, sC p0.range.lo, sC p0.range.hi, bC p0.ex]))), (7, .one (.c (.sl 1 ((p1).map (eSl 6 eLock))))), (8, iV (((((p1).map (eSl 6 eLock)).length : Nat) : Int))), (9, iV 0)] []) (by kernel_rfl) ?_
        exact imp_keepTo [2, 7, 8, 9] (by kernel_rfl) (imp_done rfl)
      intro s1 y2 h zy2
      unfold Bi_isFree_1 at h
      refine a_seq ?_
      refine a_run [2, 7, 8, 9, 10] tyOK (st1 := mk 17 [(2, .one (.c (.bx [iC p0.tx.c, iC p0.tx.e, iC p0.tx.n, sC p0.range.lo, sC p0.range.hi, bC p0.ex]))), (7, .one (.c (.sl 1 ((p1).map (eSl 6 eLock))))), (8, iV (((((p1).map (eSl 6 eLock)).length : Nat) : Int))), (9, iV s1), (10, bV (decide (s1 < (((((p1).map (eSl 6 eLock)).length : Nat) : Int)))))] []) (by kernel_rfl) ?_
      refine a_seq ?_
      refine a_cond (b := decide (s1 < (((((p1).map (eSl 6 eLock)).length : Nat) : Int)))) (by kernel_rfl) (fun h1 => ?_) (fun h1 => ?_)
      · replace h := cT h1 h
        refine a_skip ?_
        refine a_seq ?_
        refine a_block ?_
        refine a_seq ?_
        refine a_ops [0, 1, 2] (by kernel_rfl) ?_
        obtain ⟨x1, ex1, h⟩ := bnd_e h
        refine ao_index (d := 11) (size := 1) (n := s1) (rows := (p1).map (eSl 6 eLock)) (st1 := mk 17 [(2, .one (.c (.bx [iC p0.tx.c, iC p0.tx.e, iC p0.tx.n, sC p0.range.lo, sC p0.range.hi, bC p0.ex]))), (7, .one (.c (.sl 1 ((p1).map (eSl 6 eLock))))), (8, iV (((((p1).map (eSl 6 eLock)).length : Nat) : Int))), (9, iV s1), (11, .one (.fp [.sl 6 ((x1).map eLock)] 0))] []) ((eSl 6 eLock) x1) [2, 7, 8, 9, 11] tyOK (by kernel_rfl) (getI_e ex1).1 (show ((p1).map (eSl 6 eLock))[_]? = some _ from by rw [List.getElem?_map, (getI_e ex1).2]; rfl) (by kernel_rfl) (by kernel_rfl) ?_
        refine ao_some [1, 2] [] [2, 6, 7, 8, 9] tyOK (st1 := mk 17 [(2, .one (.c (.bx [iC p0.tx.c, iC p0.tx.e, iC p0.tx.n, sC p0.range.lo, sC p0.range.hi, bC p0.ex]))), (6, .one (.c (.sl 6 ((x1).map eLock)))), (7, .one (.c (.sl 1 ((p1).map (eSl 6 eLock))))), (8, iV (((((p1).map (eSl 6 eLock)).length : Nat) : Int))), (9, iV s1)] []) (by kernel_rfl) ?_
        refine ao_nil ?_
        refine a_seq ?_
        refine a_ops [0, 1, 2] (by kernel_rfl) ?_
        refine ao_some [0] [1, 2] [2, 7, 8, 9, 13] tyOK (st1 := mk 17 [(2, .one (.c (.bx [iC p0.tx.c, iC p0.tx.e, iC p0.tx.n, sC p0.range.lo, sC p0.range.hi, bC p0.ex]))), (7, .one (.c (.sl 1 ((p1).map (eSl 6 eLock))))), (8, iV (((((p1).map (eSl 6 eLock)).length : Nat) : Int))), (9, iV s1), (13, .one (.c (.sl 6 ((x1).map eLock))))] []) (by kernel_rfl) ?_
        refine ao_fn (d := 14) (f := 106) (cs := [.bx [iC p0.tx.c, iC p0.tx.e, iC p0.tx.n, sC p0.range.lo, sC p0.range.hi, bC p0.ex]]) (st1 := mk 17 [(2, .one (.c (.bx [iC p0.tx.c, iC p0.tx.e, iC p0.tx.n, sC p0.range.lo, sC p0.range.hi, bC p0.ex]))), (7, .one (.c (.sl 1 ((p1).map (eSl 6 eLock))))), (8, iV (((((p1).map (eSl 6 eLock)).length : Nat) : Int))), (9, iV s1), (13, .one (.c (.sl 6 ((x1).map eLock)))), (14, .one (.c (.fn 106 [.bx [iC p0.tx.c, iC p0.tx.e, iC p0.tx.n, sC p0.range.lo, sC p0.range.hi, bC p0.ex]])))] []) [2, 7, 8, 9, 13, 14] (by kernel_rfl) (by kernel_rfl) ?_
        obtain ⟨r1, er1, h⟩ := bnd_e h
        refine ao_enter (f := 105) (d := 15) (A := [.one (.c (.sl 6 ((x1).map eLock))), .one (.c (.fn 106 [.bx [iC p0.tx.c, iC p0.tx.e, iC p0.tx.n, sC p0.range.lo, sC p0.range.hi, bC p0.ex]]))]) (st1 := mk 17 [(2, .one (.c (.bx [iC p0.tx.c, iC p0.tx.e, iC p0.tx.n, sC p0.range.lo, sC p0.range.hi, bC p0.ex]))), (7, .one (.c (.sl 1 ((p1).map (eSl 6 eLock))))), (8, iV (((((p1).map (eSl 6 eLock)).length : Nat) : Int))), (9, iV s1), (15, bV r1)] []) [2, 7, 8, 9, 15] (k_sl_ContainsFunc_Lock_i_isFree_c1 x1 p0 r1 er1) Try.call105 (by kernel_rfl) (by kernel_rfl) (by kernel_rfl) ?_
        refine ao_nil ?_
        refine a_cond (b := r1) (by kernel_rfl) (fun h2 => ?_) (fun h2 => ?_)
        · replace h := cT h2 h
          refine a_seq ?_
          refine a_run [4] tyOK (st1 := mk 17 [(4, bV false)] []) (by kernel_rfl) ?_
          refine a_ret ?_
          obtain rfl := Option.some.inj h
          obtain rfl := zy2 _ rfl
          obtain rfl := zy1 _ rfl
          exact end_eq (res' := bV false) (by kernel_rfl) (by first | rfl | simp)
        · replace h := cF h2 h
          refine a_skip ?_
          refine a_run [2, 7, 8, 9] tyOK (st1 := mk 17 [(2, .one (.c (.bx [iC p0.tx.c, iC p0.tx.e, iC p0.tx.n, sC p0.range.lo, sC p0.range.hi, bC p0.ex]))), (7, .one (.c (.sl 1 ((p1).map (eSl 6 eLock))))), (8, iV (((((p1).map (eSl 6 eLock)).length : Nat) : Int))), (9, iV (IntKind.wrap .i64 (s1 + 1)))] []) (by kernel_rfl) ?_
          obtain rfl := Option.some.inj h
          show ∃ _, _ ∧ Imp _ _ _
          refine ⟨_, rfl, ?_⟩
          exact imp_keepTo [2, 7, 8, 9] (by kernel_rfl) (imp_done rfl)
      · replace h := cF h1 h
        refine a_exit ?_
        obtain rfl := Option.some.inj h
        obtain rfl := zy2 _ rfl
        show ∃ _, _ ∧ Imp _ _ _
        refine ⟨_, rfl, ?_⟩
        exact imp_keepTo [] (by kernel_rfl) (imp_done rfl)
    intro j1 hj1
    replace h := ky1 _ hj1
    refine a_seq ?_
    refine a_run [4] tyOK (st1 := mk 17 [(4, bV true)] []) (by kernel_rfl) ?_
    refine a_ret ?_
    obtain rfl := Option.some.inj h
    exact end_eq (res' := bV true) (by kernel_rfl) (by first | rfl | simp)

noncomputable def i_Locks_waits_c1 (p0 : Lock) (q0 : Tx) : Bool :=
 ((p0.tx.c == q0.c) && ((p0.tx.e == q0.e) && ((p0.tx.n == q0.n) && true)))
set_option maxHeartbeats 4000000 in
/-- (*impl.Locks).waits$1 -/
theorem k_i_Locks_waits_c1 (p0 : Lock) (q0 : Tx) (v : Bool) (h : i_Locks_waits_c1 p0 q0 = v) : CallOK Try.prog 108 [.agg [.c (iC p0.tx.c), .c (iC p0.tx.e), .c (iC p0.tx.n), .c (sC p0.range.lo), .c (sC p0.range.hi), .c (bC p0.ex)], .one (.c (.bx [iC q0.c, iC q0.e, iC q0.n]))] (bV v) [] :=
  callOK tyOK Try.func108 rfl fun w S hS => by
    unfold i_Locks_waits_c1 at h
    refine a_seq ?_
    refine a_run [1, 2] tyOK (st1 := mk 8 [(1, .one (.c (.bx [iC q0.c, iC q0.e, iC q0.n]))), (2, .one (.pl [(2, 0)] 0 0))] [(2, [.bx [iC p0.tx.c, iC p0.tx.e, iC p0.tx.n, sC p0.range.lo, sC p0.range.hi, bC p0.ex]])]) (by kernel_rfl) ?_
    refine a_seq ?_
    refine a_run [3] tyOK (st1 := mk 8 [(3, bV (((p0.tx.c == q0.c) && ((p0.tx.e == q0.e) && ((p0.tx.n == q0.n) && true)))))] []) (by kernel_rfl) ?_
    refine a_ret ?_
    obtain rfl := h
    exact end_eq (res' := bV (((p0.tx.c == q0.c) && ((p0.tx.e == q0.e) && ((p0.tx.n == q0.n) && true))))) (by kernel_rfl) (by first | rfl | simp)

end Go.Proofs.Ytijmnochaamllaa
namespace Go.Proofs.Ytijmnochaamllaa
open Go.Mv Go.RowKit
noncomputable def Bsl_IndexFunc_Lock_i_Locks_waits_c1_1 (p0 : (List Lock)) (q0 : Tx) (s1 : Int) : Option (Int ⊕ (Unit ⊕ (Int))) :=
 bif (decide (s1 < (((((p0).map eLock).length : Nat) : Int)))) then
 (bnd (getI p0 s1) fun x1 =>
 bif (i_Locks_waits_c1 x1 q0) then
 (some (.inr (.inr s1)))
 else
 (some (.inl (IntKind.wrap .i64 (s1 + 1)))))
 else
 (some (.inr (.inl (()))))

noncomputable def sl_IndexFunc_Lock_i_Locks_waits_c1 (p0 : (List Lock)) (q0 : Tx) : Option (Int) :=
 bndS (loopT (Bsl_IndexFunc_Lock_i_Locks_waits_c1_1 p0 q0) 0) fun j1 =>
 some (-1)
set_option maxHeartbeats 4000000 in
/-- slices.IndexFunc[[]impl.Lock,impl.Lock] -/
theorem k_sl_IndexFunc_Lock_i_Locks_waits_c1 (p0 : (List Lock)) (q0 : Tx) (v : Int) (h : sl_IndexFunc_Lock_i_Locks_waits_c1 p0 q0 = some v) : CallOK Try.prog 116 [.one (.c (.sl 6 ((p0).map eLock))), .one (.c (.fn 108 [.bx [iC q0.c, iC q0.e, iC q0.n]]))] (iV v) [] :=
  callOK tyOK Try.func116 rfl fun w S hS => by
    unfold sl_IndexFunc_Lock_i_Locks_waits_c1 at h
    refine a_seq ?_
    refine a_run [0, 1] tyOK (st1 := mk 19 [(0, .one (.c (.sl 6 ((p0).map eLock)))), (1, .one (.c (.fn 108 [.bx [iC q0.c, iC q0.e, iC q0.n]])))] []) (by kernel_rfl) ?_
    refine a_seq ?_
    refine a_seq ?_
    refine a_run [0, 1, 7, 8] tyOK (st1 := mk 19 [(0, .one (.c (.sl 6 ((p0).map eLock)))), (1, .one (.c (.fn 108 [.bx [iC q0.c, iC q0.e, iC q0.n]]))), (7, iV (((((p0).map eLock).length : Nat) : Int))), (8, iV 0)] []) (by kernel_rfl) ?_
    obtain ⟨y1, h, ky1, zy1⟩ := bndS_e h
    refine a_joinT (ι := Unit) (fun j => mk 19 [] []) (fun j => y1 = .inl j) ?_ ?_
    · refine a_block ?_
      refine a_loopT (Bsl_IndexFunc_Lock_i_Locks_waits_c1_1 p0 q0) (fun s1 => mk 19 [(0, .one (.c (.sl 6 ((p0).map eLock)))), (1, .one (.c (.fn 108 [.bx [iC q0.c, iC q0.e, iC q0.n]]))), (7, iV (((((p0).map eLock).length : Nat) : Int))), (8, iV s1)] []) 0 h ?_ ?_
      · exact imp_keepTo [0, 1, 7, 8] (by kernel_rfl) (imp_done rfl)
      intro s1 y2 h zy2
      unfold Bsl_IndexFunc_Lock_i_Locks_waits_c1_1 at h
      refine a_seq ?_
      refine a_run [0, 1, 7, 8, 9] tyOK (st1 := mk 19 [(0, .one (.c (.sl 6 ((p0).map eLock)))), (1, .one (.c (.fn 108 [.bx [iC q0.c, iC q0.e, iC q0.n]]))), (7, iV (((((p0).map eLock).length : Nat) : Int))), (8, iV s1), (9, bV (decide (s1 < (((((p0).map eLock).length : Nat) : Int)))))] []) (by kernel_rfl) ?_
      refine a_seq ?_
      refine a_cond (b := decide (s1 < (((((p0).map eLock).length : Nat) : Int)))) (by kernel_rfl) (fun h1 => ?_) (fun h1 => ?_)
      · replace h := cT h1 h
        refine a_skip ?_
        refine a_seq ?_
        refine a_block ?_
        refine a_seq ?_
        refine a_run [0, 1, 5, 7, 8] tyOK (st1 := mk 19 [(0, .one (.c (.sl 6 ((p0).map eLock)))), (1, .one (.c (.fn 108 [.bx [iC q0.c, iC q0.e, iC q0.n]]))), (5, iV s1), (7, iV (((((p0).map eLock).length : Nat) : Int))), (8, iV s1)] []) (by kernel_rfl) ?_
        refine a_seq ?_
        refine a_ops [0, 1, 2, 3, 4, 5] (by kernel_rfl) ?_
        refine ao_some [0, 1, 2] [3, 4, 5] [0, 1, 5, 7, 8, 11, 12, 13] tyOK (st1 := mk 19 [(0, .one (.c (.sl 6 ((p0).map eLock)))), (1, .one (.c (.fn 108 [.bx [iC q0.c, iC q0.e, iC q0.n]]))), (5, iV s1), (7, iV (((((p0).map eLock).length : Nat) : Int))), (8, iV s1), (11, .one (.c (.fn 108 [.bx [iC q0.c, iC q0.e, iC q0.n]]))), (12, .one (.c (.sl 6 ((p0).map eLock)))), (13, iV s1)] []) (by kernel_rfl) ?_
        obtain ⟨x1, ex1, h⟩ := bnd_e h
        refine ao_index (d := 14) (size := 6) (n := s1) (rows := (p0).map eLock) (st1 := mk 19 [(0, .one (.c (.sl 6 ((p0).map eLock)))), (1, .one (.c (.fn 108 [.bx [iC q0.c, iC q0.e, iC q0.n]]))), (5, iV s1), (7, iV (((((p0).map eLock).length : Nat) : Int))), (8, iV s1), (11, .one (.c (.fn 108 [.bx [iC q0.c, iC q0.e, iC q0.n]]))), (14, .one (.fp [iC x1.tx.c, iC x1.tx.e, iC x1.tx.n, sC x1.range.lo, sC x1.range.hi, bC x1.ex] 0))] []) (eLock x1) [0, 1, 5, 7, 8, 11, 14] tyOK (by kernel_rfl) (getI_e ex1).1 (show ((p0).map eLock)[_]? = some _ from by rw [List.getElem?_map, (getI_e ex1).2]; rfl) (by kernel_rfl) (by kernel_rfl) ?_
        refine ao_some [4] [5] [0, 1, 5, 7, 8, 11, 15] tyOK (st1 := mk 19 [(0, .one (.c (.sl 6 ((p0).map eLock)))), (1, .one (.c (.fn 108 [.bx [iC q0.c, iC q0.e, iC q0.n]]))), (5, iV s1), (7, iV (((((p0).map eLock).length : Nat) : Int))), (8, iV s1), (11, .one (.c (.fn 108 [.bx [iC q0.c, iC q0.e, iC q0.n]]))), (15, .agg [.c (iC x1.tx.c), .c (iC x1.tx.e), .c (iC x1.tx.n), .c (sC x1.range.lo), .c (sC x1.range.hi), .c (bC x1.ex)])] []) (by kernel_rfl) ?_
        refine ao_callv (f := 108) (d := 16) (A := [.agg [.c (iC x1.tx.c), .c (iC x1.tx.e), .c (iC x1.tx.n), .c (sC x1.range.lo), .c (sC x1.range.hi), .c (bC x1.ex)], .one (.c (.bx [iC q0.c, iC q0.e, iC q0.n]))]) (A' := [.agg [.c (iC x1.tx.c), .c (iC x1.tx.e), .c (iC x1.tx.n), .c (sC x1.range.lo), .c (sC x1.range.hi), .c (bC x1.ex)], .one (.c (.bx [iC q0.c, iC q0.e, iC q0.n]))]) (st1 := mk 19 [(0, .one (.c (.sl 6 ((p0).map eLock)))), (1, .one (.c (.fn 108 [.bx [iC q0.c, iC q0.e, iC q0.n]]))), (5, iV s1), (7, iV (((((p0).map eLock).length : Nat) : Int))), (8, iV s1), (16, bV (i_Locks_waits_c1 x1 q0))] []) [0, 1, 5, 7, 8, 16] (k_i_Locks_waits_c1 x1 q0 _ rfl) Try.call108 (by kernel_rfl) (.cons (.agg (.cons (.same rfl) (.cons (.same rfl) (.cons (.same rfl) (.cons (.same rfl) (.cons (.same rfl) (.cons (.same rfl) .nil))))))) (.cons (.one (.same rfl)) .nil)) rfl (clean_nil) (by kernel_rfl) (by kernel_rfl) ?_
        refine ao_nil ?_
        refine a_cond (b := i_Locks_waits_c1 x1 q0) (by kernel_rfl) (fun h2 => ?_) (fun h2 => ?_)
        · replace h := cT h2 h
          refine a_seq ?_
          refine a_run [4] tyOK (st1 := mk 19 [(4, iV s1)] []) (by kernel_rfl) ?_
          refine a_ret ?_
          obtain rfl := Option.some.inj h
          obtain rfl := zy2 _ rfl
          obtain rfl := zy1 _ rfl
          exact end_eq (res' := iV s1) (by kernel_rfl) (by first | rfl | simp)
        · replace h := cF h2 h
          refine a_skip ?_
          refine a_run [0, 1, 7, 8] tyOK (st1 := mk 19 [(0, .one (.c (.sl 6 ((p0).map eLock)))), (1, .one (.c (.fn 108 [.bx [iC q0.c, iC q0.e, iC q0.n]]))), (7, iV (((((p0).map eLock).length : Nat) : Int))), (8, iV (IntKind.wrap .i64 (s1 + 1)))] []) (by kernel_rfl) ?_
          obtain rfl := Option.some.inj h
          show ∃ _, _ ∧ Imp _ _ _
          refine ⟨_, rfl, ?_⟩
          exact imp_keepTo [0, 1, 7, 8] (by kernel_rfl) (imp_done rfl)
      · replace h := cF h1 h
        refine a_exit ?_
        obtain rfl := Option.some.inj h
        obtain rfl := zy2 _ rfl
        show ∃ _, _ ∧ Imp _ _ _
        refine ⟨_, rfl, ?_⟩
        exact imp_keepTo [] (by kernel_rfl) (imp_done rfl)
    intro j1 hj1
    replace h := ky1 _ hj1
    refine a_seq ?_
    refine a_run [4] tyOK (st1 := mk 19 [(4, iV (-1))] []) (by kernel_rfl) ?_
    refine a_ret ?_
    obtain rfl := Option.some.inj h
    exact end_eq (res' := iV (-1)) (by kernel_rfl) (by first | rfl | simp)
noncomputable def sl_ContainsFunc_Lock_i_Locks_waits_c1 (p0 : (List Lock)) (q0 : Tx) : Option (Bool) :=
 bnd (sl_IndexFunc_Lock_i_Locks_waits_c1 p0 q0) fun r1 =>
 some (decide (r1 ≥ 0))
set_option maxHeartbeats 4000000 in
/-- slices.ContainsFunc[[]impl.Lock,impl.Lock] -/
theorem k_sl_ContainsFunc_Lock_i_Locks_waits_c1 (p0 : (List Lock)) (q0 : Tx) (v : Bool) (h : sl_ContainsFunc_Lock_i_Locks_waits_c1 p0 q0 = some v) : CallOK Try.prog 105 [.one (.c (.sl 6 ((p0).map eLock))), .one (.c (.fn 108 [.bx [iC q0.c, iC q0.e, iC q0.n]]))] (bV v) [] :=
  callOK tyOK Try.func105 rfl fun w S hS => by
    unfold sl_ContainsFunc_Lock_i_Locks_waits_c1 at h
    refine a_seq ?_
    refine a_run [0, 1] tyOK (st1 := mk 9 [(0, .one (.c (.sl 6 ((p0).map eLock)))), (1, .one (.c (.fn 108 [.bx [iC q0.c, iC q0.e, iC q0.n]])))] []) (by kernel_rfl) ?_
    refine a_seq ?_
    refine a_ops [0, 1, 2, 3, 4] (by kernel_rfl) ?_
    refine ao_some [0, 1] [2, 3, 4] [5, 6] tyOK (st1 := mk 9 [(5, .one (.c (.sl 6 ((p0).map eLock)))), (6, .one (.c (.fn 108 [.bx [iC q0.c, iC q0.e, iC q0.n]])))] []) (by kernel_rfl) ?_
    obtain ⟨r1, er1, h⟩ := bnd_e h
    refine ao_enter (f := 116) (d := 7) (A := [.one (.c (.sl 6 ((p0).map eLock))), .one (.c (.fn 108 [.bx [iC q0.c, iC q0.e, iC q0.n]]))]) (st1 := mk 9 [(7, iV r1)] []) [7] (k_sl_IndexFunc_Lock_i_Locks_waits_c1 p0 q0 r1 er1) Try.call116 (by kernel_rfl) (by kernel_rfl) (by kernel_rfl) ?_
    refine ao_some [3, 4] [] [4] tyOK (st1 := mk 9 [(4, bV (decide (r1 ≥ 0)))] []) (by kernel_rfl) ?_
    refine ao_nil ?_
    refine a_ret ?_
    obtain rfl := Option.some.inj h
    exact end_eq (res' := bV (decide (r1 ≥ 0))) (by kernel_rfl) (by first | rfl | simp)
noncomputable def i_Locks_waits (p0 : Locks) (p1 : Tx) : Option (Bool) :=
 bnd (sl_ContainsFunc_Lock_i_Locks_waits_c1 p0.wait p1) fun r1 =>
 some r1
set_option maxHeartbeats 4000000 in
/-- (*impl.Locks).waits -/
theorem k_i_Locks_waits (p0 : Locks) (p1 : Tx) (v : Bool) (h : i_Locks_waits p0 p1 = some v) : CallOK Try.prog 92 [.one (.c (.bx [.sl 6 ((p0.held).map eLock), .sl 6 ((p0.wait).map eLock)])), .agg [.c (iC p1.c), .c (iC p1.e), .c (iC p1.n)]] (bV v) [] :=
  callOK tyOK Try.func92 rfl fun w S hS => by
    unfold i_Locks_waits at h
    refine a_seq ?_
    refine a_run [0, 3] tyOK (st1 := mk 11 [(0, .one (.c (.bx [.sl 6 ((p0.held).map eLock), .sl 6 ((p0.wait).map eLock)]))), (3, .one (.pl [(3, 0)] 0 0))] [(3, [.bx [iC p1.c, iC p1.e, iC p1.n]])]) (by kernel_rfl) ?_
    refine a_seq ?_
    refine a_ops [0, 1, 2, 3, 4, 5, 6] (by kernel_rfl) ?_
    refine ao_some [0, 1, 2, 3] [4, 5, 6] [3, 8] tyOK (st1 := mk 11 [(3, .one (.pl [(3, 0)] 0 0)), (8, .one (.c (.sl 6 ((p0.wait).map eLock))))] [(3, [.bx [iC p1.c, iC p1.e, iC p1.n]])]) (by kernel_rfl) ?_
    refine ao_freeze (fun _ _ h => h) [] 3 0 [3, 8] (st' := mk 11 [(3, .one (.c (.bx [iC p1.c, iC p1.e, iC p1.n]))), (8, .one (.c (.sl 6 ((p0.wait).map eLock))))] []) (by kernel_rfl) ?_
    refine ao_fn (d := 9) (f := 108) (cs := [.bx [iC p1.c, iC p1.e, iC p1.n]]) (st1 := mk 11 [(8, .one (.c (.sl 6 ((p0.wait).map eLock)))), (9, .one (.c (.fn 108 [.bx [iC p1.c, iC p1.e, iC p1.n]])))] []) [8, 9] (by kernel_rfl) (by kernel_rfl) ?_
    obtain ⟨r1, er1, h⟩ := bnd_e h
    refine ao_enter (f := 105) (d := 10) (A := [.one (.c (.sl 6 ((p0.wait).map eLock))), .one (.c (.fn 108 [.bx [iC p1.c, iC p1.e, iC p1.n]]))]) (st1 := mk 11 [(10, bV r1)] []) [10] (k_sl_ContainsFunc_Lock_i_Locks_waits_c1 p0.wait p1 r1 er1) Try.call105 (by kernel_rfl) (by kernel_rfl) (by kernel_rfl) ?_
    refine ao_some [6] [] [4] tyOK (st1 := mk 11 [(4, bV r1)] []) (by kernel_rfl) ?_
    refine ao_nil ?_
    refine a_ret ?_
    obtain rfl := Option.some.inj h
    exact end_eq (res' := bV r1) (by kernel_rfl) (by first | rfl | simp)

noncomputable def Bi_LocksOk_1 (p0 : Locks) (s1 : Int) : Option (Int ⊕ (Unit ⊕ (Bool))) :=
 bif (decide (s1 < (((((p0.held).map eLock).length : Nat) : Int)))) then
 (bnd (getI p0.held s1) fun x1 =>
 bnd (bif (!(i_lockOk x1)) then
 (some true)
 else
 (chk (0 ≤ (0 : Int) ∧ (0 : Int) ≤ s1 ∧ s1 ≤ ((p0.held).length : Int)) <|
 bnd (i_isFree x1 ([p0.held.take ((s1).toNat)])) fun r1 =>
 some (!r1))) fun j1 =>
 bif j1 then
 (some (.inr (.inr false)))
 else
 (some (.inl (IntKind.wrap .i64 (s1 + 1)))))
 else
 (some (.inr (.inl (()))))

noncomputable def Bi_LocksOk_2 (p0 : Locks) (s2 : Int) : Option (Int ⊕ (Unit ⊕ (Bool))) :=
 bif (decide (s2 < (((((p0.wait).map eLock).length : Nat) : Int)))) then
 (bnd (getI p0.wait s2) fun x2 =>
 chk (0 ≤ (0 : Int) ∧ (0 : Int) ≤ s2 ∧ s2 ≤ ((p0.wait).length : Int)) <|
 bnd (bif (!(i_lockOk x2)) then
 (some true)
 else
 (bnd (i_Locks_waits ((⟨[], p0.wait.take ((s2).toNat)⟩ : Locks)) x2.tx) fun r2 =>
 bif r2 then
 (some true)
 else
 (chk (0 ≤ (0 : Int) ∧ (0 : Int) ≤ s2 ∧ s2 ≤ ((p0.wait).length : Int)) <|
 bnd (i_isFree x2 ([p0.held, p0.wait.take ((s2).toNat)])) fun r3 =>
 some r3))) fun j3 =>
 bif j3 then
 (some (.inr (.inr false)))
 else
 (some (.inl (IntKind.wrap .i64 (s2 + 1)))))
 else
 (some (.inr (.inl (()))))

noncomputable def i_LocksOk (p0 : Locks) : Option (Bool) :=
 bif (decide ((IntKind.wrap .i64 ((((((p0.held).map eLock).length : Nat) : Int)) + (((((p0.wait).map eLock).length : Nat) : Int)))) > 60)) then
 (some false)
 else
 (bndS (loopT (Bi_LocksOk_1 p0) 0) fun j2 =>
 bndS (loopT (Bi_LocksOk_2 p0) 0) fun j4 =>
 some true)
set_option maxHeartbeats 4000000 in
/-- impl.LocksOk -/
theorem k_i_LocksOk (p0 : Locks) (v : Bool) (h : i_LocksOk p0 = some v) : CallOK Try.prog 67 [.agg [.c (.sl 6 ((p0.held).map eLock)), .c (.sl 6 ((p0.wait).map eLock))]] (bV v) [] :=
  callOK tyOK Try.func67 rfl fun w S hS => by
    unfold i_LocksOk at h
    refine a_seq ?_
    refine a_run [1] tyOK (st1 := mk 71 [(1, .one (.pl [(1, 0)] 0 0))] [(1, [.bx [.fz (.sl 6 ((p0.held).map eLock)), .fz (.sl 6 ((p0.wait).map eLock))]])]) (by as_aux_lemma => kernel_rfl) ?_
    refine a_seq ?_
    refine a_seq ?_
    refine a_run [1, 15] tyOK (st1 := mk 71 [(1, .one (.pl [(1, 0)] 0 0)), (15, bV (decide ((IntKind.wrap .i64 ((((((p0.held).map eLock).length : Nat) : Int)) + (((((p0.wait).map eLock).length : Nat) : Int)))) > 60)))] [(1, [.bx [.fz (.sl 6 ((p0.held).map eLock)), .fz (.sl 6 ((p0.wait).map eLock))]])]) (by as_aux_lemma => kernel_rfl) ?_
    refine a_cond (b := decide ((IntKind.wrap .i64 ((((((p0.held).map eLock).length : Nat) : Int)) + (((((p0.wait).map eLock).length : Nat) : Int)))) > 60)) (by as_aux_lemma => kernel_rfl) (fun h1 => ?_) (fun h1 => ?_)
    · replace h := cT h1 h
      refine a_seq ?_
      refine a_run [2] tyOK (st1 := mk 71 [(2, bV false)] []) (by as_aux_lemma => kernel_rfl) ?_
      refine a_ret ?_
      obtain rfl := Option.some.inj h
      exact end_eq (res' := bV false) (by as_aux_lemma => kernel_rfl) (by first | rfl | simp)
    · replace h := cF h1 h
      refine a_skip ?_
      refine a_seq ?_
      refine a_seq ?_
      refine a_run [1, 17, 18, 19] tyOK (st1 := mk 71 [(1, .one (.pl [(1, 0)] 0 0)), (17, .one (.c (.sl 6 ((p0.held).map eLock)))), (18, iV (((((p0.held).map eLock).length : Nat) : Int))), (19, iV 0)] [(1, [.bx [.fz (.sl 6 ((p0.held).map eLock)), .fz (.sl 6 ((p0.wait).map eLock))]])]) (by as_aux_lemma => kernel_rfl) ?_
      obtain ⟨y1, h, ky1, zy1⟩ := bndS_e h
      refine a_joinT (ι := Unit) (fun j => mk 71 [(1, .one (.pl [(1, 0)] 0 0))] [(1, [.bx [.fz (.sl 6 ((p0.held).map eLock)), .fz (.sl 6 ((p0.wait).map eLock))]])]) (fun j => y1 = .inl j) ?_ ?_
      · refine a_block ?_
        refine a_loopT (Bi_LocksOk_1 p0) (fun s1 => mk 71 [(1, .one (.pl [(1, 0)] 0 0)), (17, .one (.c (.sl 6 ((p0.held).map eLock)))), (18, iV (((((p0.held).map eLock).length : Nat) : Int))), (19, iV s1)] [(1, [.bx [.fz (.sl 6 ((p0.held).map eLock)), .fz (.sl 6 ((p0.wait).map eLock))]])]) 0 h ?_ ?_
        · exact imp_keepTo [1, 17, 18, 19] (by as_aux_lemma => kernel_rfl) (imp_done rfl)
        intro s1 y2 h zy2
        unfold Bi_LocksOk_1 at h
        refine a_seq ?_
        refine a_run [1, 17, 18, 19, 20] tyOK (st1 := mk 71 [(1, .one (.pl [(1, 0)] 0 0)), (17, .one (.c (.sl 6 ((p0.held).map eLock)))), (18, iV (((((p0.held).map eLock).length : Nat) : Int))), (19, iV s1), (20, bV (decide (s1 < (((((p0.held).map eLock).length : Nat) : Int)))))] [(1, [.bx [.fz (.sl 6 ((p0.held).map eLock)), .fz (.sl 6 ((p0.wait).map eLock))]])]) (by as_aux_lemma => kernel_rfl) ?_
        refine a_seq ?_
        refine a_cond (b := decide (s1 < (((((p0.held).map eLock).length : Nat) : Int)))) (by as_aux_lemma => kernel_rfl) (fun h2 => ?_) (fun h2 => ?_)
        · replace h := cT h2 h
          refine a_skip ?_
          refine a_seq ?_
          refine a_block ?_
          refine a_seq ?_
          refine a_ops [0, 1, 2, 3, 4, 5] (by as_aux_lemma => kernel_rfl) ?_
          refine ao_some [0] [1, 2, 3, 4, 5] [1, 17, 18, 19, 21] tyOK (st1 := mk 71 [(1, .one (.pl [(1, 0)] 0 0)), (17, .one (.c (.sl 6 ((p0.held).map eLock)))), (18, iV (((((p0.held).map eLock).length : Nat) : Int))), (19, iV s1), (21, iV s1)] [(1, [.bx [.fz (.sl 6 ((p0.held).map eLock)), .fz (.sl 6 ((p0.wait).map eLock))]])]) (by as_aux_lemma => kernel_rfl) ?_
          obtain ⟨x1, ex1, h⟩ := bnd_e h
          refine ao_index (d := 22) (size := 6) (n := s1) (rows := (p0.held).map eLock) (st1 := mk 71 [(1, .one (.pl [(1, 0)] 0 0)), (17, .one (.c (.sl 6 ((p0.held).map eLock)))), (18, iV (((((p0.held).map eLock).length : Nat) : Int))), (19, iV s1), (21, iV s1), (22, .one (.fp [iC x1.tx.c, iC x1.tx.e, iC x1.tx.n, sC x1.range.lo, sC x1.range.hi, bC x1.ex] 0))] [(1, [.bx [.fz (.sl 6 ((p0.held).map eLock)), .fz (.sl 6 ((p0.wait).map eLock))]])]) (eLock x1) [1, 17, 18, 19, 21, 22] tyOK (by as_aux_lemma => kernel_rfl) (getI_e ex1).1 (show ((p0.held).map eLock)[_]? = some _ from by rw [List.getElem?_map, (getI_e ex1).2]; rfl) (by as_aux_lemma => kernel_rfl) (by as_aux_lemma => kernel_rfl) ?_
          refine ao_some [2, 3, 4, 5] [] [1, 3, 4, 17, 18, 19] tyOK (st1 := mk 71 [(1, .one (.pl [(1, 0)] 0 0)), (3, iV s1), (4, .one (.pl [(4, 0)] 0 0)), (17, .one (.c (.sl 6 ((p0.held).map eLock)))), (18, iV (((((p0.held).map eLock).length : Nat) : Int))), (19, iV s1)] [(1, [.bx [.fz (.sl 6 ((p0.held).map eLock)), .fz (.sl 6 ((p0.wait).map eLock))]]), (4, [.bx [iC x1.tx.c, iC x1.tx.e, iC x1.tx.n, sC x1.range.lo, sC x1.range.hi, bC x1.ex]])]) (by as_aux_lemma => kernel_rfl) ?_
          refine ao_nil ?_
          refine a_seq ?_
          obtain ⟨y3, h, ky3⟩ := bndJ_e h
          refine a_joinT (ι := Bool) (fun j => mk 71 [(1, .one (.pl [(1, 0)] 0 0)), (17, .one (.c (.sl 6 ((p0.held).map eLock)))), (18, iV (((((p0.held).map eLock).length : Nat) : Int))), (19, iV s1), (36, bV j)] [(1, [.bx [.fz (.sl 6 ((p0.held).map eLock)), .fz (.sl 6 ((p0.wait).map eLock))]])]) (fun j => y3 = j) ?_ ?_
          · rcases Bool.eq_false_or_eq_true (!(i_lockOk x1)) with h3 | h3
            · replace h := cT h3 h
              refine a_mid (mk 71 [(1, .one (.pl [(1, 0)] 0 0)), (17, .one (.c (.sl 6 ((p0.held).map eLock)))), (18, iV (((((p0.held).map eLock).length : Nat) : Int))), (19, iV s1), (36, bV true)] [(1, [.bx [.fz (.sl 6 ((p0.held).map eLock)), .fz (.sl 6 ((p0.wait).map eLock))]])]) ?_ ?_
              · refine a_drawn (n := 13) [] (by as_aux_lemma => kernel_rfl) (by as_aux_lemma => kernel_rfl) ?_
                refine aa_take (fuel := 12) (listed' := #[true, false, false, false, false, false, false, false, false, false, false, false, false]) (st' := mk 71 [(1, .one (.pl [(1, 0)] 0 0)), (3, iV s1), (4, .one (.pl [(4, 0)] 0 0)), (17, .one (.c (.sl 6 ((p0.held).map eLock)))), (18, iV (((((p0.held).map eLock).length : Nat) : Int))), (19, iV s1), (24, .agg [.c (iC x1.tx.c), .c (iC x1.tx.e), .c (iC x1.tx.n), .c (sC x1.range.lo), .c (sC x1.range.hi), .c (bC x1.ex)])] [(1, [.bx [.fz (.sl 6 ((p0.held).map eLock)), .fz (.sl 6 ((p0.wait).map eLock))]]), (4, [.bx [iC x1.tx.c, iC x1.tx.e, iC x1.tx.n, sC x1.range.lo, sC x1.range.hi, bC x1.ex]])]) [0] [1, 3, 4, 17, 18, 19, 24] tyOK (by as_aux_lemma => kernel_rfl) (by as_aux_lemma => kernel_rfl) (by as_aux_lemma => kernel_rfl) ?_
                refine aa_all [1] (by as_aux_lemma => kernel_rfl) rfl ?_
                refine aa_cons ?_ aa_nil
                refine aone_enter (listed' := #[true, true, false, false, false, false, false, false, false, false, false, false, false]) (f := 68) (d := 25) (A := [.agg [.c (iC x1.tx.c), .c (iC x1.tx.e), .c (iC x1.tx.n), .c (sC x1.range.lo), .c (sC x1.range.hi), .c (bC x1.ex)]]) (st1 := mk 71 [(1, .one (.pl [(1, 0)] 0 0)), (3, iV s1), (4, .one (.pl [(4, 0)] 0 0)), (17, .one (.c (.sl 6 ((p0.held).map eLock)))), (18, iV (((((p0.held).map eLock).length : Nat) : Int))), (19, iV s1), (25, bV (i_lockOk x1))] [(1, [.bx [.fz (.sl 6 ((p0.held).map eLock)), .fz (.sl 6 ((p0.wait).map eLock))]]), (4, [.bx [iC x1.tx.c, iC x1.tx.e, iC x1.tx.n, sC x1.range.lo, sC x1.range.hi, bC x1.ex]])]) [1, 3, 4, 17, 18, 19, 25] (k_i_lockOk x1 _ rfl) Try.call68 (by as_aux_lemma => kernel_rfl) (by as_aux_lemma => kernel_rfl) (by as_aux_lemma => kernel_rfl) (by as_aux_lemma => kernel_rfl) ?_
                refine aa_take (fuel := 9) (listed' := #[true, true, true, true, false, false, false, false, false, false, false, false, false]) (st' := mk 71 [(1, .one (.pl [(1, 0)] 0 0)), (3, iV s1), (4, .one (.pl [(4, 0)] 0 0)), (17, .one (.c (.sl 6 ((p0.held).map eLock)))), (18, iV (((((p0.held).map eLock).length : Nat) : Int))), (19, iV s1), (27, bV (!(i_lockOk x1)))] [(1, [.bx [.fz (.sl 6 ((p0.held).map eLock)), .fz (.sl 6 ((p0.wait).map eLock))]]), (4, [.bx [iC x1.tx.c, iC x1.tx.e, iC x1.tx.n, sC x1.range.lo, sC x1.range.hi, bC x1.ex]])]) [2, 3] [1, 3, 4, 17, 18, 19, 27] tyOK (by as_aux_lemma => kernel_rfl) (by as_aux_lemma => kernel_rfl) (by as_aux_lemma => kernel_rfl) ?_
                refine aa_says (k := 27) (t := bV (!(i_lockOk x1))) (t' := bV true) (st1 := mk 71 [(1, .one (.pl [(1, 0)] 0 0)), (3, iV s1), (4, .one (.pl [(4, 0)] 0 0)), (17, .one (.c (.sl 6 ((p0.held).map eLock)))), (18, iV (((((p0.held).map eLock).length : Nat) : Int))), (19, iV s1), (27, bV true)] [(1, [.bx [.fz (.sl 6 ((p0.held).map eLock)), .fz (.sl 6 ((p0.wait).map eLock))]]), (4, [.bx [iC x1.tx.c, iC x1.tx.e, iC x1.tx.n, sC x1.range.lo, sC x1.range.hi, bC x1.ex]])]) (by as_aux_lemma => kernel_rfl) (by rw [h3]) (by as_aux_lemma => kernel_rfl) ?_
                refine aa_take (fuel := 3) (listed' := #[true, true, true, true, true, true, true, true, true, true, false, false, false]) (st' := mk 71 [(1, .one (.pl [(1, 0)] 0 0)), (17, .one (.c (.sl 6 ((p0.held).map eLock)))), (18, iV (((((p0.held).map eLock).length : Nat) : Int))), (19, iV s1), (27, bV true), (28, .tup []), (33, .tup [])] [(1, [.bx [.fz (.sl 6 ((p0.held).map eLock)), .fz (.sl 6 ((p0.wait).map eLock))]])]) [4, 5, 6, 7, 8, 9] [1, 17, 18, 19, 27, 28, 33] tyOK (by as_aux_lemma => kernel_rfl) (by as_aux_lemma => kernel_rfl) (by as_aux_lemma => kernel_rfl) ?_
                refine aa_all [10] (by as_aux_lemma => kernel_rfl) rfl ?_
                refine aa_cons ?_ aa_nil
                refine aone_any (listed' := #[true, true, true, true, true, true, true, true, true, true, true, false, false]) (st1 := mk 71 [(1, .one (.pl [(1, 0)] 0 0)), (17, .one (.c (.sl 6 ((p0.held).map eLock)))), (18, iV (((((p0.held).map eLock).length : Nat) : Int))), (19, iV s1), (27, bV true), (34, .tup [])] [(1, [.bx [.fz (.sl 6 ((p0.held).map eLock)), .fz (.sl 6 ((p0.wait).map eLock))]])]) [1, 17, 18, 19, 27, 34] tyOK (by as_aux_lemma => kernel_rfl) (by as_aux_lemma => kernel_rfl) ?_
                refine aa_take (fuel := 0) (listed' := #[true, true, true, true, true, true, true, true, true, true, true, true, true]) (st' := mk 71 [(1, .one (.pl [(1, 0)] 0 0)), (17, .one (.c (.sl 6 ((p0.held).map eLock)))), (18, iV (((((p0.held).map eLock).length : Nat) : Int))), (19, iV s1), (36, bV true)] [(1, [.bx [.fz (.sl 6 ((p0.held).map eLock)), .fz (.sl 6 ((p0.wait).map eLock))]])]) [11, 12] [1, 17, 18, 19, 36] tyOK (by as_aux_lemma => kernel_rfl) (by as_aux_lemma => kernel_rfl) (by as_aux_lemma => kernel_rfl) ?_
                refine aa_done (by as_aux_lemma => kernel_rfl) ?_
                show _ = _; kernel_rfl
              obtain rfl := Option.some.inj h
              show ∃ _, _ ∧ Imp _ _ _
              refine ⟨_, rfl, ?_⟩
              exact imp_keepTo [1, 17, 18, 19, 36] (by as_aux_lemma => kernel_rfl) (imp_done rfl)
            · replace h := cF h3 h
              obtain ⟨c1, h⟩ := chk_e h
              obtain ⟨r1, er1, h⟩ := bnd_e h
              refine a_mid (mk 71 [(1, .one (.pl [(1, 0)] 0 0)), (17, .one (.c (.sl 6 ((p0.held).map eLock)))), (18, iV (((((p0.held).map eLock).length : Nat) : Int))), (19, iV s1), (36, bV (!r1))] [(1, [.bx [.fz (.sl 6 ((p0.held).map eLock)), .fz (.sl 6 ((p0.wait).map eLock))]])]) ?_ ?_
              · refine a_drawn (n := 13) [] (by as_aux_lemma => kernel_rfl) (by as_aux_lemma => kernel_rfl) ?_
                refine aa_take (fuel := 12) (listed' := #[true, false, false, false, false, false, false, false, false, false, false, false, false]) (st' := mk 71 [(1, .one (.pl [(1, 0)] 0 0)), (3, iV s1), (4, .one (.pl [(4, 0)] 0 0)), (17, .one (.c (.sl 6 ((p0.held).map eLock)))), (18, iV (((((p0.held).map eLock).length : Nat) : Int))), (19, iV s1), (24, .agg [.c (iC x1.tx.c), .c (iC x1.tx.e), .c (iC x1.tx.n), .c (sC x1.range.lo), .c (sC x1.range.hi), .c (bC x1.ex)])] [(1, [.bx [.fz (.sl 6 ((p0.held).map eLock)), .fz (.sl 6 ((p0.wait).map eLock))]]), (4, [.bx [iC x1.tx.c, iC x1.tx.e, iC x1.tx.n, sC x1.range.lo, sC x1.range.hi, bC x1.ex]])]) [0] [1, 3, 4, 17, 18, 19, 24] tyOK (by as_aux_lemma => kernel_rfl) (by as_aux_lemma => kernel_rfl) (by as_aux_lemma => kernel_rfl) ?_
                refine aa_all [1] (by as_aux_lemma => kernel_rfl) rfl ?_
                refine aa_cons ?_ aa_nil
                refine aone_enter (listed' := #[true, true, false, false, false, false, false, false, false, false, false, false, false]) (f := 68) (d := 25) (A := [.agg [.c (iC x1.tx.c), .c (iC x1.tx.e), .c (iC x1.tx.n), .c (sC x1.range.lo), .c (sC x1.range.hi), .c (bC x1.ex)]]) (st1 := mk 71 [(1, .one (.pl [(1, 0)] 0 0)), (3, iV s1), (4, .one (.pl [(4, 0)] 0 0)), (17, .one (.c (.sl 6 ((p0.held).map eLock)))), (18, iV (((((p0.held).map eLock).length : Nat) : Int))), (19, iV s1), (25, bV (i_lockOk x1))] [(1, [.bx [.fz (.sl 6 ((p0.held).map eLock)), .fz (.sl 6 ((p0.wait).map eLock))]]), (4, [.bx [iC x1.tx.c, iC x1.tx.e, iC x1.tx.n, sC x1.range.lo, sC x1.range.hi, bC x1.ex]])]) [1, 3, 4, 17, 18, 19, 25] (k_i_lockOk x1 _ rfl) Try.call68 (by as_aux_lemma => kernel_rfl) (by as_aux_lemma => kernel_rfl) (by as_aux_lemma => kernel_rfl) (by as_aux_lemma => kernel_rfl) ?_
                refine aa_take (fuel := 9) (listed' := #[true, true, true, true, false, false, false, false, false, false, false, false, false]) (st' := mk 71 [(1, .one (.pl [(1, 0)] 0 0)), (3, iV s1), (4, .one (.pl [(4, 0)] 0 0)), (17, .one (.c (.sl 6 ((p0.held).map eLock)))), (18, iV (((((p0.held).map eLock).length : Nat) : Int))), (19, iV s1), (27, bV (!(i_lockOk x1)))] [(1, [.bx [.fz (.sl 6 ((p0.held).map eLock)), .fz (.sl 6 ((p0.wait).map eLock))]]), (4, [.bx [iC x1.tx.c, iC x1.tx.e, iC x1.tx.n, sC x1.range.lo, sC x1.range.hi, bC x1.ex]])]) [2, 3] [1, 3, 4, 17, 18, 19, 27] tyOK (by as_aux_lemma => kernel_rfl) (by as_aux_lemma => kernel_rfl) (by as_aux_lemma => kernel_rfl) ?_
                refine aa_says (k := 27) (t := bV (!(i_lockOk x1))) (t' := bV false) (st1 := mk 71 [(1, .one (.pl [(1, 0)] 0 0)), (3, iV s1), (4, .one (.pl [(4, 0)] 0 0)), (17, .one (.c (.sl 6 ((p0.held).map eLock)))), (18, iV (((((p0.held).map eLock).length : Nat) : Int))), (19, iV s1), (27, bV false)] [(1, [.bx [.fz (.sl 6 ((p0.held).map eLock)), .fz (.sl 6 ((p0.wait).map eLock))]]), (4, [.bx [iC x1.tx.c, iC x1.tx.e, iC x1.tx.n, sC x1.range.lo, sC x1.range.hi, bC x1.ex]])]) (by as_aux_lemma => kernel_rfl) (by rw [h3]) (by as_aux_lemma => kernel_rfl) ?_
                refine aa_take (fuel := 5) (listed' := #[true, true, true, true, true, true, true, true, false, false, false, false, false]) (st' := mk 71 [(1, .one (.pl [(1, 0)] 0 0)), (17, .one (.c (.sl 6 ((p0.held).map eLock)))), (18, iV (((((p0.held).map eLock).length : Nat) : Int))), (19, iV s1), (27, bV false), (28, .agg [.c (iC x1.tx.c), .c (iC x1.tx.e), .c (iC x1.tx.n), .c (sC x1.range.lo), .c (sC x1.range.hi), .c (bC x1.ex)]), (30, .one (.c (.sl 6 ((p0.held).map eLock)))), (31, iV s1)] [(1, [.bx [.fz (.sl 6 ((p0.held).map eLock)), .fz (.sl 6 ((p0.wait).map eLock))]])]) [4, 5, 6, 7] [1, 17, 18, 19, 27, 28, 30, 31] tyOK (by as_aux_lemma => kernel_rfl) (by as_aux_lemma => kernel_rfl) (by as_aux_lemma => kernel_rfl) ?_
                refine aa_q (i := 8) (d := 32) (c := (0 ≤ (0 : Int) ∧ (0 : Int) ≤ s1 ∧ s1 ≤ (((p0.held).map eLock).length : Int) ∧ ((p0.held).map eLock).all (fun r => r.length == 6) = true)) (tv := .one (.c (.sl 6 ((((p0.held).map eLock).take s1.toNat).drop (0 : Int).toNat)))) (listed' := #[true, true, true, true, true, true, true, true, true, false, false, false, false]) (st1 := mk 71 [(1, .one (.pl [(1, 0)] 0 0)), (17, .one (.c (.sl 6 ((p0.held).map eLock)))), (18, iV (((((p0.held).map eLock).length : Nat) : Int))), (19, iV s1), (27, bV false), (28, .agg [.c (iC x1.tx.c), .c (iC x1.tx.e), .c (iC x1.tx.n), .c (sC x1.range.lo), .c (sC x1.range.hi), .c (bC x1.ex)]), (32, .one (.c (.sl 6 ((((p0.held).map eLock).take s1.toNat).drop (0 : Int).toNat))))] [(1, [.bx [.fz (.sl 6 ((p0.held).map eLock)), .fz (.sl 6 ((p0.wait).map eLock))]])]) [1, 17, 18, 19, 27, 28, 32] tyOK (by as_aux_lemma => kernel_rfl) (by as_aux_lemma => kernel_rfl) (by simpa [eLock] using c1) (by as_aux_lemma => kernel_rfl) (by as_aux_lemma => kernel_rfl) (by as_aux_lemma => kernel_rfl) ?_
                refine aa_says (k := 32) (t := .one (.c (.sl 6 ((((p0.held).map eLock).take s1.toNat).drop (0 : Int).toNat)))) (t' := .one (.c (.sl 6 ((p0.held.take ((s1).toNat)).map eLock)))) (st1 := mk 71 [(1, .one (.pl [(1, 0)] 0 0)), (17, .one (.c (.sl 6 ((p0.held).map eLock)))), (18, iV (((((p0.held).map eLock).length : Nat) : Int))), (19, iV s1), (27, bV false), (28, .agg [.c (iC x1.tx.c), .c (iC x1.tx.e), .c (iC x1.tx.n), .c (sC x1.range.lo), .c (sC x1.range.hi), .c (bC x1.ex)]), (32, .one (.c (.sl 6 ((p0.held.take ((s1).toNat)).map eLock))))] [(1, [.bx [.fz (.sl 6 ((p0.held).map eLock)), .fz (.sl 6 ((p0.wait).map eLock))]])]) (by as_aux_lemma => kernel_rfl) (by simp [List.map_take, List.map_drop]) (by as_aux_lemma => kernel_rfl) ?_
                refine aa_all [9] (by as_aux_lemma => kernel_rfl) rfl ?_
                refine aa_cons ?_ aa_nil
                refine aone_rows (d := 33) (d' := 34) (sz := 1) (f := 91) (xs := [.tmp 28, .tmp 33]) (ts := [[.c (.sl 6 ((p0.held.take ((s1).toNat)).map eLock))]]) (tl := [.c (.sl 6 ((p0.held.take ((s1).toNat)).map eLock))]) (rows := [[.sl 6 ((p0.held.take ((s1).toNat)).map eLock)]]) (cl := [.sl 6 ((p0.held.take ((s1).toNat)).map eLock)]) (A' := [.agg [.c (iC x1.tx.c), .c (iC x1.tx.e), .c (iC x1.tx.n), .c (sC x1.range.lo), .c (sC x1.range.hi), .c (bC x1.ex)], .one (.c (.sl 1 ([[.sl 6 ((p0.held.take ((s1).toNat)).map eLock)]])))]) (st1 := mk 71 [(1, .one (.pl [(1, 0)] 0 0)), (17, .one (.c (.sl 6 ((p0.held).map eLock)))), (18, iV (((((p0.held).map eLock).length : Nat) : Int))), (19, iV s1), (27, bV false), (34, bV r1)] [(1, [.bx [.fz (.sl 6 ((p0.held).map eLock)), .fz (.sl 6 ((p0.wait).map eLock))]])]) (j := 10) (fuel := 2) (listed1 := #[true, true, true, true, true, true, true, true, true, true, false, false, false]) (listed2 := #[true, true, true, true, true, true, true, true, true, true, true, false, false]) [1, 17, 18, 19, 27, 34] tyOK (k_i_isFree x1 ([p0.held.take ((s1).toNat)]) r1 er1) Try.call91 (by as_aux_lemma => kernel_rfl) (by as_aux_lemma => kernel_rfl) (by as_aux_lemma => kernel_rfl) (.cons (.same rfl) .nil) (by as_aux_lemma => kernel_rfl) (by as_aux_lemma => kernel_rfl) (.cons rfl (by as_aux_lemma => kernel_rfl) (.agg (.cons (.same rfl) (.cons (.same rfl) (.cons (.same rfl) (.cons (.same rfl) (.cons (.same rfl) (.cons (.same rfl) .nil))))))) (.hd .nil)) (by as_aux_lemma => kernel_rfl) clean_nil (by as_aux_lemma => kernel_rfl) (by as_aux_lemma => kernel_rfl) (by as_aux_lemma => kernel_rfl) (by as_aux_lemma => kernel_rfl) (by as_aux_lemma => kernel_rfl) ?_
                refine aa_take (fuel := 0) (listed' := #[true, true, true, true, true, true, true, true, true, true, true, true, true]) (st' := mk 71 [(1, .one (.pl [(1, 0)] 0 0)), (17, .one (.c (.sl 6 ((p0.held).map eLock)))), (18, iV (((((p0.held).map eLock).length : Nat) : Int))), (19, iV s1), (36, bV (!r1))] [(1, [.bx [.fz (.sl 6 ((p0.held).map eLock)), .fz (.sl 6 ((p0.wait).map eLock))]])]) [11, 12] [1, 17, 18, 19, 36] tyOK (by as_aux_lemma => kernel_rfl) (by as_aux_lemma => kernel_rfl) (by as_aux_lemma => kernel_rfl) ?_
                refine aa_done (by as_aux_lemma => kernel_rfl) ?_
                show _ = _; kernel_rfl
              obtain rfl := Option.some.inj h
              show ∃ _, _ ∧ Imp _ _ _
              refine ⟨_, rfl, ?_⟩
              exact imp_keepTo [1, 17, 18, 19, 36] (by as_aux_lemma => kernel_rfl) (imp_done rfl)
          intro j1 hj1
          replace h := ky3 _ hj1
          refine a_cond (b := j1) (by as_aux_lemma => kernel_rfl) (fun h4 => ?_) (fun h4 => ?_)
          · replace h := cT h4 h
            refine a_seq ?_
            refine a_run [2] tyOK (st1 := mk 71 [(2, bV false)] []) (by as_aux_lemma => kernel_rfl) ?_
            refine a_ret ?_
            obtain rfl := Option.some.inj h
            obtain rfl := zy2 _ rfl
            obtain rfl := zy1 _ rfl
            exact end_eq (res' := bV false) (by as_aux_lemma => kernel_rfl) (by first | rfl | simp)
          · replace h := cF h4 h
            refine a_skip ?_
            refine a_run [1, 17, 18, 19] tyOK (st1 := mk 71 [(1, .one (.pl [(1, 0)] 0 0)), (17, .one (.c (.sl 6 ((p0.held).map eLock)))), (18, iV (((((p0.held).map eLock).length : Nat) : Int))), (19, iV (IntKind.wrap .i64 (s1 + 1)))] [(1, [.bx [.fz (.sl 6 ((p0.held).map eLock)), .fz (.sl 6 ((p0.wait).map eLock))]])]) (by as_aux_lemma => kernel_rfl) ?_
            obtain rfl := Option.some.inj h
            show ∃ _, _ ∧ Imp _ _ _
            refine ⟨_, rfl, ?_⟩
            exact imp_keepTo [1, 17, 18, 19] (by as_aux_lemma => kernel_rfl) (imp_done rfl)
        · replace h := cF h2 h
          refine a_exit ?_
          obtain rfl := Option.some.inj h
          obtain rfl := zy2 _ rfl
          show ∃ _, _ ∧ Imp _ _ _
          refine ⟨_, rfl, ?_⟩
          exact imp_keepTo [1] (by as_aux_lemma => kernel_rfl) (imp_done rfl)
      intro j2 hj2
      replace h := ky1 _ hj2
      refine a_seq ?_
      refine a_seq ?_
      refine a_run [1, 39, 40, 41] tyOK (st1 := mk 71 [(1, .one (.pl [(1, 0)] 0 0)), (39, .one (.c (.sl 6 ((p0.wait).map eLock)))), (40, iV (((((p0.wait).map eLock).length : Nat) : Int))), (41, iV 0)] [(1, [.bx [.fz (.sl 6 ((p0.held).map eLock)), .fz (.sl 6 ((p0.wait).map eLock))]])]) (by as_aux_lemma => kernel_rfl) ?_
      obtain ⟨y4, h, ky4, zy4⟩ := bndS_e h
      refine a_joinT (ι := Unit) (fun j => mk 71 [] []) (fun j => y4 = .inl j) ?_ ?_
      · refine a_block ?_
        refine a_loopT (Bi_LocksOk_2 p0) (fun s2 => mk 71 [(1, .one (.pl [(1, 0)] 0 0)), (39, .one (.c (.sl 6 ((p0.wait).map eLock)))), (40, iV (((((p0.wait).map eLock).length : Nat) : Int))), (41, iV s2)] [(1, [.bx [.fz (.sl 6 ((p0.held).map eLock)), .fz (.sl 6 ((p0.wait).map eLock))]])]) 0 h ?_ ?_
        · exact imp_keepTo [1, 39, 40, 41] (by as_aux_lemma => kernel_rfl) (imp_done rfl)
        intro s2 y5 h zy5
        unfold Bi_LocksOk_2 at h
        refine a_seq ?_
        refine a_run [1, 39, 40, 41, 42] tyOK (st1 := mk 71 [(1, .one (.pl [(1, 0)] 0 0)), (39, .one (.c (.sl 6 ((p0.wait).map eLock)))), (40, iV (((((p0.wait).map eLock).length : Nat) : Int))), (41, iV s2), (42, bV (decide (s2 < (((((p0.wait).map eLock).length : Nat) : Int)))))] [(1, [.bx [.fz (.sl 6 ((p0.held).map eLock)), .fz (.sl 6 ((p0.wait).map eLock))]])]) (by as_aux_lemma => kernel_rfl) ?_
        refine a_seq ?_
        refine a_cond (b := decide (s2 < (((((p0.wait).map eLock).length : Nat) : Int)))) (by as_aux_lemma => kernel_rfl) (fun h5 => ?_) (fun h5 => ?_)
        · replace h := cT h5 h
          refine a_skip ?_
          refine a_seq ?_
          refine a_block ?_
          refine a_seq ?_
          refine a_ops [0, 1, 2, 3, 4, 5] (by as_aux_lemma => kernel_rfl) ?_
          refine ao_some [0] [1, 2, 3, 4, 5] [1, 39, 40, 41, 43] tyOK (st1 := mk 71 [(1, .one (.pl [(1, 0)] 0 0)), (39, .one (.c (.sl 6 ((p0.wait).map eLock)))), (40, iV (((((p0.wait).map eLock).length : Nat) : Int))), (41, iV s2), (43, iV s2)] [(1, [.bx [.fz (.sl 6 ((p0.held).map eLock)), .fz (.sl 6 ((p0.wait).map eLock))]])]) (by as_aux_lemma => kernel_rfl) ?_
          obtain ⟨x2, ex2, h⟩ := bnd_e h
          refine ao_index (d := 44) (size := 6) (n := s2) (rows := (p0.wait).map eLock) (st1 := mk 71 [(1, .one (.pl [(1, 0)] 0 0)), (39, .one (.c (.sl 6 ((p0.wait).map eLock)))), (40, iV (((((p0.wait).map eLock).length : Nat) : Int))), (41, iV s2), (43, iV s2), (44, .one (.fp [iC x2.tx.c, iC x2.tx.e, iC x2.tx.n, sC x2.range.lo, sC x2.range.hi, bC x2.ex] 0))] [(1, [.bx [.fz (.sl 6 ((p0.held).map eLock)), .fz (.sl 6 ((p0.wait).map eLock))]])]) (eLock x2) [1, 39, 40, 41, 43, 44] tyOK (by as_aux_lemma => kernel_rfl) (getI_e ex2).1 (show ((p0.wait).map eLock)[_]? = some _ from by rw [List.getElem?_map, (getI_e ex2).2]; rfl) (by as_aux_lemma => kernel_rfl) (by as_aux_lemma => kernel_rfl) ?_
          refine ao_some [2, 3, 4, 5] [] [1, 5, 6, 39, 40, 41] tyOK (st1 := mk 71 [(1, .one (.pl [(1, 0)] 0 0)), (5, iV s2), (6, .one (.pl [(6, 0)] 0 0)), (39, .one (.c (.sl 6 ((p0.wait).map eLock)))), (40, iV (((((p0.wait).map eLock).length : Nat) : Int))), (41, iV s2)] [(1, [.bx [.fz (.sl 6 ((p0.held).map eLock)), .fz (.sl 6 ((p0.wait).map eLock))]]), (6, [.bx [iC x2.tx.c, iC x2.tx.e, iC x2.tx.n, sC x2.range.lo, sC x2.range.hi, bC x2.ex]])]) (by as_aux_lemma => kernel_rfl) ?_
          refine ao_nil ?_
          refine a_seq ?_
          refine a_ops [0, 1, 2, 3, 4, 5, 6] (by as_aux_lemma => kernel_rfl) ?_
          refine ao_some [0, 1, 2] [3, 4, 5, 6] [1, 5, 6, 39, 40, 41, 47, 48] tyOK (st1 := mk 71 [(1, .one (.pl [(1, 0)] 0 0)), (5, iV s2), (6, .one (.pl [(6, 0)] 0 0)), (39, .one (.c (.sl 6 ((p0.wait).map eLock)))), (40, iV (((((p0.wait).map eLock).length : Nat) : Int))), (41, iV s2), (47, .one (.c (.sl 6 ((p0.wait).map eLock)))), (48, iV s2)] [(1, [.bx [.fz (.sl 6 ((p0.held).map eLock)), .fz (.sl 6 ((p0.wait).map eLock))]]), (6, [.bx [iC x2.tx.c, iC x2.tx.e, iC x2.tx.n, sC x2.range.lo, sC x2.range.hi, bC x2.ex]])]) (by as_aux_lemma => kernel_rfl) ?_
          obtain ⟨c2, h⟩ := chk_e h
          refine ao_q (d := 49) (c := (0 ≤ (0 : Int) ∧ (0 : Int) ≤ s2 ∧ s2 ≤ (((p0.wait).map eLock).length : Int) ∧ ((p0.wait).map eLock).all (fun r => r.length == 6) = true)) (tv := .one (.c (.sl 6 ((((p0.wait).map eLock).take s2.toNat).drop (0 : Int).toNat)))) (st1 := mk 71 [(1, .one (.pl [(1, 0)] 0 0)), (5, iV s2), (6, .one (.pl [(6, 0)] 0 0)), (39, .one (.c (.sl 6 ((p0.wait).map eLock)))), (40, iV (((((p0.wait).map eLock).length : Nat) : Int))), (41, iV s2), (49, .one (.c (.sl 6 ((((p0.wait).map eLock).take s2.toNat).drop (0 : Int).toNat))))] [(1, [.bx [.fz (.sl 6 ((p0.held).map eLock)), .fz (.sl 6 ((p0.wait).map eLock))]]), (6, [.bx [iC x2.tx.c, iC x2.tx.e, iC x2.tx.n, sC x2.range.lo, sC x2.range.hi, bC x2.ex]])]) [1, 5, 6, 39, 40, 41, 49] tyOK (by as_aux_lemma => kernel_rfl) (by simpa [eLock] using c2) (by as_aux_lemma => kernel_rfl) ?_
          refine ao_says (k := 49) (t := .one (.c (.sl 6 ((((p0.wait).map eLock).take s2.toNat).drop (0 : Int).toNat)))) (t' := .one (.c (.sl 6 ((p0.wait.take ((s2).toNat)).map eLock)))) (st1 := mk 71 [(1, .one (.pl [(1, 0)] 0 0)), (5, iV s2), (6, .one (.pl [(6, 0)] 0 0)), (39, .one (.c (.sl 6 ((p0.wait).map eLock)))), (40, iV (((((p0.wait).map eLock).length : Nat) : Int))), (41, iV s2), (49, .one (.c (.sl 6 ((p0.wait.take ((s2).toNat)).map eLock))))] [(1, [.bx [.fz (.sl 6 ((p0.held).map eLock)), .fz (.sl 6 ((p0.wait).map eLock))]]), (6, [.bx [iC x2.tx.c, iC x2.tx.e, iC x2.tx.n, sC x2.range.lo, sC x2.range.hi, bC x2.ex]])]) (by as_aux_lemma => kernel_rfl) (by simp [List.map_take, List.map_drop]) (by as_aux_lemma => kernel_rfl) ?_
          refine ao_some [4, 5, 6] [] [1, 5, 6, 7, 39, 40, 41] tyOK (st1 := mk 71 [(1, .one (.pl [(1, 0)] 0 0)), (5, iV s2), (6, .one (.pl [(6, 0)] 0 0)), (7, .one (.pl [(7, 0)] 0 0)), (39, .one (.c (.sl 6 ((p0.wait).map eLock)))), (40, iV (((((p0.wait).map eLock).length : Nat) : Int))), (41, iV s2)] [(1, [.bx [.fz (.sl 6 ((p0.held).map eLock)), .fz (.sl 6 ((p0.wait).map eLock))]]), (6, [.bx [iC x2.tx.c, iC x2.tx.e, iC x2.tx.n, sC x2.range.lo, sC x2.range.hi, bC x2.ex]]), (7, [.bx [.sl 6 ([]), .fz (.sl 6 ((p0.wait.take ((s2).toNat)).map eLock))]])]) (by as_aux_lemma => kernel_rfl) ?_
          refine ao_nil ?_
          refine a_seq ?_
          obtain ⟨y6, h, ky6⟩ := bndJ_e h
          refine a_joinT (ι := Bool) (fun j => mk 71 [(1, .one (.pl [(1, 0)] 0 0)), (39, .one (.c (.sl 6 ((p0.wait).map eLock)))), (40, iV (((((p0.wait).map eLock).length : Nat) : Int))), (41, iV s2), (69, bV j)] [(1, [.bx [.fz (.sl 6 ((p0.held).map eLock)), .fz (.sl 6 ((p0.wait).map eLock))]])]) (fun j => y6 = j) ?_ ?_
          · rcases Bool.eq_false_or_eq_true (!(i_lockOk x2)) with h6 | h6
            · replace h := cT h6 h
              refine a_mid (mk 71 [(1, .one (.pl [(1, 0)] 0 0)), (39, .one (.c (.sl 6 ((p0.wait).map eLock)))), (40, iV (((((p0.wait).map eLock).length : Nat) : Int))), (41, iV s2), (69, bV true)] [(1, [.bx [.fz (.sl 6 ((p0.held).map eLock)), .fz (.sl 6 ((p0.wait).map eLock))]])]) ?_ ?_
              · refine a_drawn (n := 19) [] (by as_aux_lemma => kernel_rfl) (by as_aux_lemma => kernel_rfl) ?_
                refine aa_take (fuel := 18) (listed' := #[true, false, false, false, false, false, false, false, false, false, false, false, false, false, false, false, false, false, false]) (st' := mk 71 [(1, .one (.pl [(1, 0)] 0 0)), (5, iV s2), (6, .one (.pl [(6, 0)] 0 0)), (7, .one (.pl [(7, 0)] 0 0)), (39, .one (.c (.sl 6 ((p0.wait).map eLock)))), (40, iV (((((p0.wait).map eLock).length : Nat) : Int))), (41, iV s2), (51, .agg [.c (iC x2.tx.c), .c (iC x2.tx.e), .c (iC x2.tx.n), .c (sC x2.range.lo), .c (sC x2.range.hi), .c (bC x2.ex)])] [(1, [.bx [.fz (.sl 6 ((p0.held).map eLock)), .fz (.sl 6 ((p0.wait).map eLock))]]), (6, [.bx [iC x2.tx.c, iC x2.tx.e, iC x2.tx.n, sC x2.range.lo, sC x2.range.hi, bC x2.ex]]), (7, [.bx [.sl 6 ([]), .fz (.sl 6 ((p0.wait.take ((s2).toNat)).map eLock))]])]) [0] [1, 5, 6, 7, 39, 40, 41, 51] tyOK (by as_aux_lemma => kernel_rfl) (by as_aux_lemma => kernel_rfl) (by as_aux_lemma => kernel_rfl) ?_
                refine aa_all [1] (by as_aux_lemma => kernel_rfl) rfl ?_
                refine aa_cons ?_ aa_nil
                refine aone_enter (listed' := #[true, true, false, false, false, false, false, false, false, false, false, false, false, false, false, false, false, false, false]) (f := 68) (d := 52) (A := [.agg [.c (iC x2.tx.c), .c (iC x2.tx.e), .c (iC x2.tx.n), .c (sC x2.range.lo), .c (sC x2.range.hi), .c (bC x2.ex)]]) (st1 := mk 71 [(1, .one (.pl [(1, 0)] 0 0)), (5, iV s2), (6, .one (.pl [(6, 0)] 0 0)), (7, .one (.pl [(7, 0)] 0 0)), (39, .one (.c (.sl 6 ((p0.wait).map eLock)))), (40, iV (((((p0.wait).map eLock).length : Nat) : Int))), (41, iV s2), (52, bV (i_lockOk x2))] [(1, [.bx [.fz (.sl 6 ((p0.held).map eLock)), .fz (.sl 6 ((p0.wait).map eLock))]]), (6, [.bx [iC x2.tx.c, iC x2.tx.e, iC x2.tx.n, sC x2.range.lo, sC x2.range.hi, bC x2.ex]]), (7, [.bx [.sl 6 ([]), .fz (.sl 6 ((p0.wait.take ((s2).toNat)).map eLock))]])]) [1, 5, 6, 7, 39, 40, 41, 52] (k_i_lockOk x2 _ rfl) Try.call68 (by as_aux_lemma => kernel_rfl) (by as_aux_lemma => kernel_rfl) (by as_aux_lemma => kernel_rfl) (by as_aux_lemma => kernel_rfl) ?_
                refine aa_take (fuel := 15) (listed' := #[true, true, true, true, false, false, false, false, false, false, false, false, false, false, false, false, false, false, false]) (st' := mk 71 [(1, .one (.pl [(1, 0)] 0 0)), (5, iV s2), (6, .one (.pl [(6, 0)] 0 0)), (7, .one (.pl [(7, 0)] 0 0)), (39, .one (.c (.sl 6 ((p0.wait).map eLock)))), (40, iV (((((p0.wait).map eLock).length : Nat) : Int))), (41, iV s2), (54, bV (!(i_lockOk x2)))] [(1, [.bx [.fz (.sl 6 ((p0.held).map eLock)), .fz (.sl 6 ((p0.wait).map eLock))]]), (6, [.bx [iC x2.tx.c, iC x2.tx.e, iC x2.tx.n, sC x2.range.lo, sC x2.range.hi, bC x2.ex]]), (7, [.bx [.sl 6 ([]), .fz (.sl 6 ((p0.wait.take ((s2).toNat)).map eLock))]])]) [2, 3] [1, 5, 6, 7, 39, 40, 41, 54] tyOK (by as_aux_lemma => kernel_rfl) (by as_aux_lemma => kernel_rfl) (by as_aux_lemma => kernel_rfl) ?_
                refine aa_says (k := 54) (t := bV (!(i_lockOk x2))) (t' := bV true) (st1 := mk 71 [(1, .one (.pl [(1, 0)] 0 0)), (5, iV s2), (6, .one (.pl [(6, 0)] 0 0)), (7, .one (.pl [(7, 0)] 0 0)), (39, .one (.c (.sl 6 ((p0.wait).map eLock)))), (40, iV (((((p0.wait).map eLock).length : Nat) : Int))), (41, iV s2), (54, bV true)] [(1, [.bx [.fz (.sl 6 ((p0.held).map eLock)), .fz (.sl 6 ((p0.wait).map eLock))]]), (6, [.bx [iC x2.tx.c, iC x2.tx.e, iC x2.tx.n, sC x2.range.lo, sC x2.range.hi, bC x2.ex]]), (7, [.bx [.sl 6 ([]), .fz (.sl 6 ((p0.wait.take ((s2).toNat)).map eLock))]])]) (by as_aux_lemma => kernel_rfl) (by rw [h6]) (by as_aux_lemma => kernel_rfl) ?_
                refine aa_take (fuel := 13) (listed' := #[true, true, true, true, true, true, false, false, false, false, false, false, false, false, false, false, false, false, false]) (st' := mk 71 [(1, .one (.pl [(1, 0)] 0 0)), (5, iV s2), (6, .one (.pl [(6, 0)] 0 0)), (7, .one (.pl [(7, 0)] 0 0)), (39, .one (.c (.sl 6 ((p0.wait).map eLock)))), (40, iV (((((p0.wait).map eLock).length : Nat) : Int))), (41, iV s2), (54, bV true), (56, .tup [])] [(1, [.bx [.fz (.sl 6 ((p0.held).map eLock)), .fz (.sl 6 ((p0.wait).map eLock))]]), (6, [.bx [iC x2.tx.c, iC x2.tx.e, iC x2.tx.n, sC x2.range.lo, sC x2.range.hi, bC x2.ex]]), (7, [.bx [.sl 6 ([]), .fz (.sl 6 ((p0.wait.take ((s2).toNat)).map eLock))]])]) [4, 5] [1, 5, 6, 7, 39, 40, 41, 54, 56] tyOK (by as_aux_lemma => kernel_rfl) (by as_aux_lemma => kernel_rfl) (by as_aux_lemma => kernel_rfl) ?_
                refine aa_all [6] (by as_aux_lemma => kernel_rfl) rfl ?_
                refine aa_cons ?_ aa_nil
                refine aone_any (listed' := #[true, true, true, true, true, true, true, false, false, false, false, false, false, false, false, false, false, false, false]) (st1 := mk 71 [(1, .one (.pl [(1, 0)] 0 0)), (5, iV s2), (6, .one (.pl [(6, 0)] 0 0)), (39, .one (.c (.sl 6 ((p0.wait).map eLock)))), (40, iV (((((p0.wait).map eLock).length : Nat) : Int))), (41, iV s2), (54, bV true), (57, .tup [])] [(1, [.bx [.fz (.sl 6 ((p0.held).map eLock)), .fz (.sl 6 ((p0.wait).map eLock))]]), (6, [.bx [iC x2.tx.c, iC x2.tx.e, iC x2.tx.n, sC x2.range.lo, sC x2.range.hi, bC x2.ex]])]) [1, 5, 6, 39, 40, 41, 54, 57] tyOK (by as_aux_lemma => kernel_rfl) (by as_aux_lemma => kernel_rfl) ?_
                refine aa_take (fuel := 2) (listed' := #[true, true, true, true, true, true, true, true, true, true, true, true, true, true, true, true, true, false, false]) (st' := mk 71 [(1, .one (.pl [(1, 0)] 0 0)), (39, .one (.c (.sl 6 ((p0.wait).map eLock)))), (40, iV (((((p0.wait).map eLock).length : Nat) : Int))), (41, iV s2), (59, bV true), (60, .tup []), (67, .tup [])] [(1, [.bx [.fz (.sl 6 ((p0.held).map eLock)), .fz (.sl 6 ((p0.wait).map eLock))]])]) [7, 8, 9, 10, 11, 12, 13, 14, 15, 16] [1, 39, 40, 41, 59, 60, 67] tyOK (by as_aux_lemma => kernel_rfl) (by as_aux_lemma => kernel_rfl) (by as_aux_lemma => kernel_rfl) ?_
                refine aa_all [17] (by as_aux_lemma => kernel_rfl) rfl ?_
                refine aa_cons ?_ aa_nil
                refine aone_any (listed' := #[true, true, true, true, true, true, true, true, true, true, true, true, true, true, true, true, true, true, false]) (st1 := mk 71 [(1, .one (.pl [(1, 0)] 0 0)), (39, .one (.c (.sl 6 ((p0.wait).map eLock)))), (40, iV (((((p0.wait).map eLock).length : Nat) : Int))), (41, iV s2), (59, bV true), (68, .tup [])] [(1, [.bx [.fz (.sl 6 ((p0.held).map eLock)), .fz (.sl 6 ((p0.wait).map eLock))]])]) [1, 39, 40, 41, 59, 68] tyOK (by as_aux_lemma => kernel_rfl) (by as_aux_lemma => kernel_rfl) ?_
                refine aa_take (fuel := 0) (listed' := #[true, true, true, true, true, true, true, true, true, true, true, true, true, true, true, true, true, true, true]) (st' := mk 71 [(1, .one (.pl [(1, 0)] 0 0)), (39, .one (.c (.sl 6 ((p0.wait).map eLock)))), (40, iV (((((p0.wait).map eLock).length : Nat) : Int))), (41, iV s2), (69, bV true)] [(1, [.bx [.fz (.sl 6 ((p0.held).map eLock)), .fz (.sl 6 ((p0.wait).map eLock))]])]) [18] [1, 39, 40, 41, 69] tyOK (by as_aux_lemma => kernel_rfl) (by as_aux_lemma => kernel_rfl) (by as_aux_lemma => kernel_rfl) ?_
                refine aa_done (by as_aux_lemma => kernel_rfl) ?_
                show _ = _; kernel_rfl
              obtain rfl := Option.some.inj h
              show ∃ _, _ ∧ Imp _ _ _
              refine ⟨_, rfl, ?_⟩
              exact imp_keepTo [1, 39, 40, 41, 69] (by as_aux_lemma => kernel_rfl) (imp_done rfl)
            · replace h := cF h6 h
              obtain ⟨r2, er2, h⟩ := bnd_e h
              rcases Bool.eq_false_or_eq_true (r2) with h7 | h7
              · replace h := cT h7 h
                refine a_mid (mk 71 [(1, .one (.pl [(1, 0)] 0 0)), (39, .one (.c (.sl 6 ((p0.wait).map eLock)))), (40, iV (((((p0.wait).map eLock).length : Nat) : Int))), (41, iV s2), (69, bV true)] [(1, [.bx [.fz (.sl 6 ((p0.held).map eLock)), .fz (.sl 6 ((p0.wait).map eLock))]])]) ?_ ?_
                · refine a_drawn (n := 19) [] (by as_aux_lemma => kernel_rfl) (by as_aux_lemma => kernel_rfl) ?_
                  refine aa_take (fuel := 18) (listed' := #[true, false, false, false, false, false, false, false, false, false, false, false, false, false, false, false, false, false, false]) (st' := mk 71 [(1, .one (.pl [(1, 0)] 0 0)), (5, iV s2), (6, .one (.pl [(6, 0)] 0 0)), (7, .one (.pl [(7, 0)] 0 0)), (39, .one (.c (.sl 6 ((p0.wait).map eLock)))), (40, iV (((((p0.wait).map eLock).length : Nat) : Int))), (41, iV s2), (51, .agg [.c (iC x2.tx.c), .c (iC x2.tx.e), .c (iC x2.tx.n), .c (sC x2.range.lo), .c (sC x2.range.hi), .c (bC x2.ex)])] [(1, [.bx [.fz (.sl 6 ((p0.held).map eLock)), .fz (.sl 6 ((p0.wait).map eLock))]]), (6, [.bx [iC x2.tx.c, iC x2.tx.e, iC x2.tx.n, sC x2.range.lo, sC x2.range.hi, bC x2.ex]]), (7, [.bx [.sl 6 ([]), .fz (.sl 6 ((p0.wait.take ((s2).toNat)).map eLock))]])]) [0] [1, 5, 6, 7, 39, 40, 41, 51] tyOK (by as_aux_lemma => kernel_rfl) (by as_aux_lemma => kernel_rfl) (by as_aux_lemma => kernel_rfl) ?_
                  refine aa_all [1] (by as_aux_lemma => kernel_rfl) rfl ?_
                  refine aa_cons ?_ aa_nil
                  refine aone_enter (listed' := #[true, true, false, false, false, false, false, false, false, false, false, false, false, false, false, false, false, false, false]) (f := 68) (d := 52) (A := [.agg [.c (iC x2.tx.c), .c (iC x2.tx.e), .c (iC x2.tx.n), .c (sC x2.range.lo), .c (sC x2.range.hi), .c (bC x2.ex)]]) (st1 := mk 71 [(1, .one (.pl [(1, 0)] 0 0)), (5, iV s2), (6, .one (.pl [(6, 0)] 0 0)), (7, .one (.pl [(7, 0)] 0 0)), (39, .one (.c (.sl 6 ((p0.wait).map eLock)))), (40, iV (((((p0.wait).map eLock).length : Nat) : Int))), (41, iV s2), (52, bV (i_lockOk x2))] [(1, [.bx [.fz (.sl 6 ((p0.held).map eLock)), .fz (.sl 6 ((p0.wait).map eLock))]]), (6, [.bx [iC x2.tx.c, iC x2.tx.e, iC x2.tx.n, sC x2.range.lo, sC x2.range.hi, bC x2.ex]]), (7, [.bx [.sl 6 ([]), .fz (.sl 6 ((p0.wait.take ((s2).toNat)).map eLock))]])]) [1, 5, 6, 7, 39, 40, 41, 52] (k_i_lockOk x2 _ rfl) Try.call68 (by as_aux_lemma => kernel_rfl) (by as_aux_lemma => kernel_rfl) (by as_aux_lemma => kernel_rfl) (by as_aux_lemma => kernel_rfl) ?_
                  refine aa_take (fuel := 15) (listed' := #[true, true, true, true, false, false, false, false, false, false, false, false, false, false, false, false, false, false, false]) (st' := mk 71 [(1, .one (.pl [(1, 0)] 0 0)), (5, iV s2), (6, .one (.pl [(6, 0)] 0 0)), (7, .one (.pl [(7, 0)] 0 0)), (39, .one (.c (.sl 6 ((p0.wait).map eLock)))), (40, iV (((((p0.wait).map eLock).length : Nat) : Int))), (41, iV s2), (54, bV (!(i_lockOk x2)))] [(1, [.bx [.fz (.sl 6 ((p0.held).map eLock)), .fz (.sl 6 ((p0.wait).map eLock))]]), (6, [.bx [iC x2.tx.c, iC x2.tx.e, iC x2.tx.n, sC x2.range.lo, sC x2.range.hi, bC x2.ex]]), (7, [.bx [.sl 6 ([]), .fz (.sl 6 ((p0.wait.take ((s2).toNat)).map eLock))]])]) [2, 3] [1, 5, 6, 7, 39, 40, 41, 54] tyOK (by as_aux_lemma => kernel_rfl) (by as_aux_lemma => kernel_rfl) (by as_aux_lemma => kernel_rfl) ?_
                  refine aa_says (k := 54) (t := bV (!(i_lockOk x2))) (t' := bV false) (st1 := mk 71 [(1, .one (.pl [(1, 0)] 0 0)), (5, iV s2), (6, .one (.pl [(6, 0)] 0 0)), (7, .one (.pl [(7, 0)] 0 0)), (39, .one (.c (.sl 6 ((p0.wait).map eLock)))), (40, iV (((((p0.wait).map eLock).length : Nat) : Int))), (41, iV s2), (54, bV false)] [(1, [.bx [.fz (.sl 6 ((p0.held).map eLock)), .fz (.sl 6 ((p0.wait).map eLock))]]), (6, [.bx [iC x2.tx.c, iC x2.tx.e, iC x2.tx.n, sC x2.range.lo, sC x2.range.hi, bC x2.ex]]), (7, [.bx [.sl 6 ([]), .fz (.sl 6 ((p0.wait.take ((s2).toNat)).map eLock))]])]) (by as_aux_lemma => kernel_rfl) (by rw [h6]) (by as_aux_lemma => kernel_rfl) ?_
                  refine aa_take (fuel := 13) (listed' := #[true, true, true, true, true, true, false, false, false, false, false, false, false, false, false, false, false, false, false]) (st' := mk 71 [(1, .one (.pl [(1, 0)] 0 0)), (5, iV s2), (6, .one (.pl [(6, 0)] 0 0)), (7, .one (.pl [(7, 0)] 0 0)), (39, .one (.c (.sl 6 ((p0.wait).map eLock)))), (40, iV (((((p0.wait).map eLock).length : Nat) : Int))), (41, iV s2), (54, bV false), (56, .agg [.c (iC x2.tx.c), .c (iC x2.tx.e), .c (iC x2.tx.n)])] [(1, [.bx [.fz (.sl 6 ((p0.held).map eLock)), .fz (.sl 6 ((p0.wait).map eLock))]]), (6, [.bx [iC x2.tx.c, iC x2.tx.e, iC x2.tx.n, sC x2.range.lo, sC x2.range.hi, bC x2.ex]]), (7, [.bx [.sl 6 ([]), .fz (.sl 6 ((p0.wait.take ((s2).toNat)).map eLock))]])]) [4, 5] [1, 5, 6, 7, 39, 40, 41, 54, 56] tyOK (by as_aux_lemma => kernel_rfl) (by as_aux_lemma => kernel_rfl) (by as_aux_lemma => kernel_rfl) ?_
                  refine aa_all [6] (by as_aux_lemma => kernel_rfl) rfl ?_
                  refine aa_cons ?_ aa_nil
                  refine aone_lend (listed' := #[true, true, true, true, true, true, true, false, false, false, false, false, false, false, false, false, false, false, false]) (f := 92) (d := 57) (A := [.one (.pl [(7, 0)] 0 0), .agg [.c (iC x2.tx.c), .c (iC x2.tx.e), .c (iC x2.tx.n)]]) (A' := [.one (.c (.bx [.sl 6 ([]), .sl 6 ((p0.wait.take ((s2).toNat)).map eLock)])), .agg [.c (iC x2.tx.c), .c (iC x2.tx.e), .c (iC x2.tx.n)]]) (st1 := mk 71 [(1, .one (.pl [(1, 0)] 0 0)), (5, iV s2), (6, .one (.pl [(6, 0)] 0 0)), (39, .one (.c (.sl 6 ((p0.wait).map eLock)))), (40, iV (((((p0.wait).map eLock).length : Nat) : Int))), (41, iV s2), (54, bV false), (57, bV r2)] [(1, [.bx [.fz (.sl 6 ((p0.held).map eLock)), .fz (.sl 6 ((p0.wait).map eLock))]]), (6, [.bx [iC x2.tx.c, iC x2.tx.e, iC x2.tx.n, sC x2.range.lo, sC x2.range.hi, bC x2.ex]])]) [1, 5, 6, 39, 40, 41, 54, 57] (k_i_Locks_waits ((⟨[], p0.wait.take ((s2).toNat)⟩ : Locks)) x2.tx r2 er2) Try.call92 (by as_aux_lemma => kernel_rfl) (.cons (.one (.imp (lend_bx [] 7 0 rfl (by as_aux_lemma => kernel_rfl)) (.bx (.cons .same (.cons (.fz .same) .nil))))) (.cons (.agg (.cons (.same rfl) (.cons (.same rfl) (.cons (.same rfl) .nil)))) .nil)) (by as_aux_lemma => kernel_rfl) (clean_nil) (by as_aux_lemma => kernel_rfl) (by as_aux_lemma => kernel_rfl) (by as_aux_lemma => kernel_rfl) ?_
                  refine aa_take (fuel := 10) (listed' := #[true, true, true, true, true, true, true, true, true, false, false, false, false, false, false, false, false, false, false]) (st' := mk 71 [(1, .one (.pl [(1, 0)] 0 0)), (5, iV s2), (6, .one (.pl [(6, 0)] 0 0)), (39, .one (.c (.sl 6 ((p0.wait).map eLock)))), (40, iV (((((p0.wait).map eLock).length : Nat) : Int))), (41, iV s2), (59, bV r2)] [(1, [.bx [.fz (.sl 6 ((p0.held).map eLock)), .fz (.sl 6 ((p0.wait).map eLock))]]), (6, [.bx [iC x2.tx.c, iC x2.tx.e, iC x2.tx.n, sC x2.range.lo, sC x2.range.hi, bC x2.ex]])]) [7, 8] [1, 5, 6, 39, 40, 41, 59] tyOK (by as_aux_lemma => kernel_rfl) (by as_aux_lemma => kernel_rfl) (by as_aux_lemma => kernel_rfl) ?_
                  refine aa_says (k := 59) (t := bV r2) (t' := bV true) (st1 := mk 71 [(1, .one (.pl [(1, 0)] 0 0)), (5, iV s2), (6, .one (.pl [(6, 0)] 0 0)), (39, .one (.c (.sl 6 ((p0.wait).map eLock)))), (40, iV (((((p0.wait).map eLock).length : Nat) : Int))), (41, iV s2), (59, bV true)] [(1, [.bx [.fz (.sl 6 ((p0.held).map eLock)), .fz (.sl 6 ((p0.wait).map eLock))]]), (6, [.bx [iC x2.tx.c, iC x2.tx.e, iC x2.tx.n, sC x2.range.lo, sC x2.range.hi, bC x2.ex]])]) (by as_aux_lemma => kernel_rfl) (by rw [h7]) (by as_aux_lemma => kernel_rfl) ?_
                  refine aa_take (fuel := 2) (listed' := #[true, true, true, true, true, true, true, true, true, true, true, true, true, true, true, true, true, false, false]) (st' := mk 71 [(1, .one (.pl [(1, 0)] 0 0)), (39, .one (.c (.sl 6 ((p0.wait).map eLock)))), (40, iV (((((p0.wait).map eLock).length : Nat) : Int))), (41, iV s2), (59, bV true), (60, .tup []), (67, .tup [])] [(1, [.bx [.fz (.sl 6 ((p0.held).map eLock)), .fz (.sl 6 ((p0.wait).map eLock))]])]) [9, 10, 11, 12, 13, 14, 15, 16] [1, 39, 40, 41, 59, 60, 67] tyOK (by as_aux_lemma => kernel_rfl) (by as_aux_lemma => kernel_rfl) (by as_aux_lemma => kernel_rfl) ?_
                  refine aa_all [17] (by as_aux_lemma => kernel_rfl) rfl ?_
                  refine aa_cons ?_ aa_nil
                  refine aone_any (listed' := #[true, true, true, true, true, true, true, true, true, true, true, true, true, true, true, true, true, true, false]) (st1 := mk 71 [(1, .one (.pl [(1, 0)] 0 0)), (39, .one (.c (.sl 6 ((p0.wait).map eLock)))), (40, iV (((((p0.wait).map eLock).length : Nat) : Int))), (41, iV s2), (59, bV true), (68, .tup [])] [(1, [.bx [.fz (.sl 6 ((p0.held).map eLock)), .fz (.sl 6 ((p0.wait).map eLock))]])]) [1, 39, 40, 41, 59, 68] tyOK (by as_aux_lemma => kernel_rfl) (by as_aux_lemma => kernel_rfl) ?_
                  refine aa_take (fuel := 0) (listed' := #[true, true, true, true, true, true, true, true, true, true, true, true, true, true, true, true, true, true, true]) (st' := mk 71 [(1, .one (.pl [(1, 0)] 0 0)), (39, .one (.c (.sl 6 ((p0.wait).map eLock)))), (40, iV (((((p0.wait).map eLock).length : Nat) : Int))), (41, iV s2), (69, bV true)] [(1, [.bx [.fz (.sl 6 ((p0.held).map eLock)), .fz (.sl 6 ((p0.wait).map eLock))]])]) [18] [1, 39, 40, 41, 69] tyOK (by as_aux_lemma => kernel_rfl) (by as_aux_lemma => kernel_rfl) (by as_aux_lemma => kernel_rfl) ?_
                  refine aa_done (by as_aux_lemma => kernel_rfl) ?_
                  show _ = _; kernel_rfl
                obtain rfl := Option.some.inj h
                show ∃ _, _ ∧ Imp _ _ _
                refine ⟨_, rfl, ?_⟩
                exact imp_keepTo [1, 39, 40, 41, 69] (by as_aux_lemma => kernel_rfl) (imp_done rfl)
              · replace h := cF h7 h
                obtain ⟨c3, h⟩ := chk_e h
                obtain ⟨r3, er3, h⟩ := bnd_e h
                refine a_mid (mk 71 [(1, .one (.pl [(1, 0)] 0 0)), (39, .one (.c (.sl 6 ((p0.wait).map eLock)))), (40, iV (((((p0.wait).map eLock).length : Nat) : Int))), (41, iV s2), (69, bV r3)] [(1, [.bx [.fz (.sl 6 ((p0.held).map eLock)), .fz (.sl 6 ((p0.wait).map eLock))]])]) ?_ ?_
                · refine a_drawn (n := 19) [] (by as_aux_lemma => kernel_rfl) (by as_aux_lemma => kernel_rfl) ?_
                  refine aa_take (fuel := 18) (listed' := #[true, false, false, false, false, false, false, false, false, false, false, false, false, false, false, false, false, false, false]) (st' := mk 71 [(1, .one (.pl [(1, 0)] 0 0)), (5, iV s2), (6, .one (.pl [(6, 0)] 0 0)), (7, .one (.pl [(7, 0)] 0 0)), (39, .one (.c (.sl 6 ((p0.wait).map eLock)))), (40, iV (((((p0.wait).map eLock).length : Nat) : Int))), (41, iV s2), (51, .agg [.c (iC x2.tx.c), .c (iC x2.tx.e), .c (iC x2.tx.n), .c (sC x2.range.lo), .c (sC x2.range.hi), .c (bC x2.ex)])] [(1, [.bx [.fz (.sl 6 ((p0.held).map eLock)), .fz (.sl 6 ((p0.wait).map eLock))]]), (6, [.bx [iC x2.tx.c, iC x2.tx.e, iC x2.tx.n, sC x2.range.lo, sC x2.range.hi, bC x2.ex]]), (7, [.bx [.sl 6 ([]), .fz (.sl 6 ((p0.wait.take ((s2).toNat)).map eLock))]])]) [0] [1, 5, 6, 7, 39, 40, 41, 51] tyOK (by as_aux_lemma => kernel_rfl) (by as_aux_lemma => kernel_rfl) (by as_aux_lemma => kernel_rfl) ?_
                  refine aa_all [1] (by as_aux_lemma => kernel_rfl) rfl ?_
                  refine aa_cons ?_ aa_nil
                  refine aone_enter (listed' := #[true, true, false, false, false, false, false, false, false, false, false, false, false, false, false, false, false, false, false]) (f := 68) (d := 52) (A := [.agg [.c (iC x2.tx.c), .c (iC x2.tx.e), .c (iC x2.tx.n), .c (sC x2.range.lo), .c (sC x2.range.hi), .c (bC x2.ex)]]) (st1 := mk 71 [(1, .one (.pl [(1, 0)] 0 0)), (5, iV s2), (6, .one (.pl [(6, 0)] 0 0)), (7, .one (.pl [(7, 0)] 0 0)), (39, .one (.c (.sl 6 ((p0.wait).map eLock)))), (40, iV (((((p0.wait).map eLock).length : Nat) : Int))), (41, iV s2), (52, bV (i_lockOk x2))] [(1, [.bx [.fz (.sl 6 ((p0.held).map eLock)), .fz (.sl 6 ((p0.wait).map eLock))]]), (6, [.bx [iC x2.tx.c, iC x2.tx.e, iC x2.tx.n, sC x2.range.lo, sC x2.range.hi, bC x2.ex]]), (7, [.bx [.sl 6 ([]), .fz (.sl 6 ((p0.wait.take ((s2).toNat)).map eLock))]])]) [1, 5, 6, 7, 39, 40, 41, 52] (k_i_lockOk x2 _ rfl) Try.call68 (by as_aux_lemma => kernel_rfl) (by as_aux_lemma => kernel_rfl) (by as_aux_lemma => kernel_rfl) (by as_aux_lemma => kernel_rfl) ?_
                  refine aa_take (fuel := 15) (listed' := #[true, true, true, true, false, false, false, false, false, false, false, false, false, false, false, false, false, false, false]) (st' := mk 71 [(1, .one (.pl [(1, 0)] 0 0)), (5, iV s2), (6, .one (.pl [(6, 0)] 0 0)), (7, .one (.pl [(7, 0)] 0 0)), (39, .one (.c (.sl 6 ((p0.wait).map eLock)))), (40, iV (((((p0.wait).map eLock).length : Nat) : Int))), (41, iV s2), (54, bV (!(i_lockOk x2)))] [(1, [.bx [.fz (.sl 6 ((p0.held).map eLock)), .fz (.sl 6 ((p0.wait).map eLock))]]), (6, [.bx [iC x2.tx.c, iC x2.tx.e, iC x2.tx.n, sC x2.range.lo, sC x2.range.hi, bC x2.ex]]), (7, [.bx [.sl 6 ([]), .fz (.sl 6 ((p0.wait.take ((s2).toNat)).map eLock))]])]) [2, 3] [1, 5, 6, 7, 39, 40, 41, 54] tyOK (by as_aux_lemma => kernel_rfl) (by as_aux_lemma => kernel_rfl) (by as_aux_lemma => kernel_rfl) ?_
                  refine aa_says (k := 54) (t := bV (!(i_lockOk x2))) (t' := bV false) (st1 := mk 71 [(1, .one (.pl [(1, 0)] 0 0)), (5, iV s2), (6, .one (.pl [(6, 0)] 0 0)), (7, .one (.pl [(7, 0)] 0 0)), (39, .one (.c (.sl 6 ((p0.wait).map eLock)))), (40, iV (((((p0.wait).map eLock).length : Nat) : Int))), (41, iV s2), (54, bV false)] [(1, [.bx [.fz (.sl 6 ((p0.held).map eLock)), .fz (.sl 6 ((p0.wait).map eLock))]]), (6, [.bx [iC x2.tx.c, iC x2.tx.e, iC x2.tx.n, sC x2.range.lo, sC x2.range.hi, bC x2.ex]]), (7, [.bx [.sl 6 ([]), .fz (.sl 6 ((p0.wait.take ((s2).toNat)).map eLock))]])]) (by as_aux_lemma => kernel_rfl) (by rw [h6]) (by as_aux_lemma => kernel_rfl) ?_
                  refine aa_take (fuel := 13) (listed' := #[true, true, true, true, true, true, false, false, false, false, false, false, false, false, false, false, false, false, false]) (st' := mk 71 [(1, .one (.pl [(1, 0)] 0 0)), (5, iV s2), (6, .one (.pl [(6, 0)] 0 0)), (7, .one (.pl [(7, 0)] 0 0)), (39, .one (.c (.sl 6 ((p0.wait).map eLock)))), (40, iV (((((p0.wait).map eLock).length : Nat) : Int))), (41, iV s2), (54, bV false), (56, .agg [.c (iC x2.tx.c), .c (iC x2.tx.e), .c (iC x2.tx.n)])] [(1, [.bx [.fz (.sl 6 ((p0.held).map eLock)), .fz (.sl 6 ((p0.wait).map eLock))]]), (6, [.bx [iC x2.tx.c, iC x2.tx.e, iC x2.tx.n, sC x2.range.lo, sC x2.range.hi, bC x2.ex]]), (7, [.bx [.sl 6 ([]), .fz (.sl 6 ((p0.wait.take ((s2).toNat)).map eLock))]])]) [4, 5] [1, 5, 6, 7, 39, 40, 41, 54, 56] tyOK (by as_aux_lemma => kernel_rfl) (by as_aux_lemma => kernel_rfl) (by as_aux_lemma => kernel_rfl) ?_
                  refine aa_all [6] (by as_aux_lemma => kernel_rfl) rfl ?_
                  refine aa_cons ?_ aa_nil
                  refine aone_lend (listed' := #[true, true, true, true, true, true, true, false, false, false, false, false, false, false, false, false, false, false, false]) (f := 92) (d := 57) (A := [.one (.pl [(7, 0)] 0 0), .agg [.c (iC x2.tx.c), .c (iC x2.tx.e), .c (iC x2.tx.n)]]) (A' := [.one (.c (.bx [.sl 6 ([]), .sl 6 ((p0.wait.take ((s2).toNat)).map eLock)])), .agg [.c (iC x2.tx.c), .c (iC x2.tx.e), .c (iC x2.tx.n)]]) (st1 := mk 71 [(1, .one (.pl [(1, 0)] 0 0)), (5, iV s2), (6, .one (.pl [(6, 0)] 0 0)), (39, .one (.c (.sl 6 ((p0.wait).map eLock)))), (40, iV (((((p0.wait).map eLock).length : Nat) : Int))), (41, iV s2), (54, bV false), (57, bV r2)] [(1, [.bx [.fz (.sl 6 ((p0.held).map eLock)), .fz (.sl 6 ((p0.wait).map eLock))]]), (6, [.bx [iC x2.tx.c, iC x2.tx.e, iC x2.tx.n, sC x2.range.lo, sC x2.range.hi, bC x2.ex]])]) [1, 5, 6, 39, 40, 41, 54, 57] (k_i_Locks_waits ((⟨[], p0.wait.take ((s2).toNat)⟩ : Locks)) x2.tx r2 er2) Try.call92 (by as_aux_lemma => kernel_rfl) (.cons (.one (.imp (lend_bx [] 7 0 rfl (by as_aux_lemma => kernel_rfl)) (.bx (.cons .same (.cons (.fz .same) .nil))))) (.cons (.agg (.cons (.same rfl) (.cons (.same rfl) (.cons (.same rfl) .nil)))) .nil)) (by as_aux_lemma => kernel_rfl) (clean_nil) (by as_aux_lemma => kernel_rfl) (by as_aux_lemma => kernel_rfl) (by as_aux_lemma => kernel_rfl) ?_
                  refine aa_take (fuel := 10) (listed' := #[true, true, true, true, true, true, true, true, true, false, false, false, false, false, false, false, false, false, false]) (st' := mk 71 [(1, .one (.pl [(1, 0)] 0 0)), (5, iV s2), (6, .one (.pl [(6, 0)] 0 0)), (39, .one (.c (.sl 6 ((p0.wait).map eLock)))), (40, iV (((((p0.wait).map eLock).length : Nat) : Int))), (41, iV s2), (59, bV r2)] [(1, [.bx [.fz (.sl 6 ((p0.held).map eLock)), .fz (.sl 6 ((p0.wait).map eLock))]]), (6, [.bx [iC x2.tx.c, iC x2.tx.e, iC x2.tx.n, sC x2.range.lo, sC x2.range.hi, bC x2.ex]])]) [7, 8] [1, 5, 6, 39, 40, 41, 59] tyOK (by as_aux_lemma => kernel_rfl) (by as_aux_lemma => kernel_rfl) (by as_aux_lemma => kernel_rfl) ?_
                  refine aa_says (k := 59) (t := bV r2) (t' := bV false) (st1 := mk 71 [(1, .one (.pl [(1, 0)] 0 0)), (5, iV s2), (6, .one (.pl [(6, 0)] 0 0)), (39, .one (.c (.sl 6 ((p0.wait).map eLock)))), (40, iV (((((p0.wait).map eLock).length : Nat) : Int))), (41, iV s2), (59, bV false)] [(1, [.bx [.fz (.sl 6 ((p0.held).map eLock)), .fz (.sl 6 ((p0.wait).map eLock))]]), (6, [.bx [iC x2.tx.c, iC x2.tx.e, iC x2.tx.n, sC x2.range.lo, sC x2.range.hi, bC x2.ex]])]) (by as_aux_lemma => kernel_rfl) (by rw [h7]) (by as_aux_lemma => kernel_rfl) ?_
                  refine aa_take (fuel := 4) (listed' := #[true, true, true, true, true, true, true, true, true, true, true, true, true, true, true, false, false, false, false]) (st' := mk 71 [(1, .one (.pl [(1, 0)] 0 0)), (39, .one (.c (.sl 6 ((p0.wait).map eLock)))), (40, iV (((((p0.wait).map eLock).length : Nat) : Int))), (41, iV s2), (59, bV false), (60, .agg [.c (iC x2.tx.c), .c (iC x2.tx.e), .c (iC x2.tx.n), .c (sC x2.range.lo), .c (sC x2.range.hi), .c (bC x2.ex)]), (62, .one (.c (.sl 6 ((p0.held).map eLock)))), (64, .one (.c (.sl 6 ((p0.wait).map eLock)))), (65, iV s2)] [(1, [.bx [.fz (.sl 6 ((p0.held).map eLock)), .fz (.sl 6 ((p0.wait).map eLock))]])]) [9, 10, 11, 12, 13, 14] [1, 39, 40, 41, 59, 60, 62, 64, 65] tyOK (by as_aux_lemma => kernel_rfl) (by as_aux_lemma => kernel_rfl) (by as_aux_lemma => kernel_rfl) ?_
                  refine aa_q (i := 15) (d := 66) (c := (0 ≤ (0 : Int) ∧ (0 : Int) ≤ s2 ∧ s2 ≤ (((p0.wait).map eLock).length : Int) ∧ ((p0.wait).map eLock).all (fun r => r.length == 6) = true)) (tv := .one (.c (.sl 6 ((((p0.wait).map eLock).take s2.toNat).drop (0 : Int).toNat)))) (listed' := #[true, true, true, true, true, true, true, true, true, true, true, true, true, true, true, true, false, false, false]) (st1 := mk 71 [(1, .one (.pl [(1, 0)] 0 0)), (39, .one (.c (.sl 6 ((p0.wait).map eLock)))), (40, iV (((((p0.wait).map eLock).length : Nat) : Int))), (41, iV s2), (59, bV false), (60, .agg [.c (iC x2.tx.c), .c (iC x2.tx.e), .c (iC x2.tx.n), .c (sC x2.range.lo), .c (sC x2.range.hi), .c (bC x2.ex)]), (62, .one (.c (.sl 6 ((p0.held).map eLock)))), (66, .one (.c (.sl 6 ((((p0.wait).map eLock).take s2.toNat).drop (0 : Int).toNat))))] [(1, [.bx [.fz (.sl 6 ((p0.held).map eLock)), .fz (.sl 6 ((p0.wait).map eLock))]])]) [1, 39, 40, 41, 59, 60, 62, 66] tyOK (by as_aux_lemma => kernel_rfl) (by as_aux_lemma => kernel_rfl) (by simpa [eLock] using c3) (by as_aux_lemma => kernel_rfl) (by as_aux_lemma => kernel_rfl) (by as_aux_lemma => kernel_rfl) ?_
                  refine aa_says (k := 66) (t := .one (.c (.sl 6 ((((p0.wait).map eLock).take s2.toNat).drop (0 : Int).toNat)))) (t' := .one (.c (.sl 6 ((p0.wait.take ((s2).toNat)).map eLock)))) (st1 := mk 71 [(1, .one (.pl [(1, 0)] 0 0)), (39, .one (.c (.sl 6 ((p0.wait).map eLock)))), (40, iV (((((p0.wait).map eLock).length : Nat) : Int))), (41, iV s2), (59, bV false), (60, .agg [.c (iC x2.tx.c), .c (iC x2.tx.e), .c (iC x2.tx.n), .c (sC x2.range.lo), .c (sC x2.range.hi), .c (bC x2.ex)]), (62, .one (.c (.sl 6 ((p0.held).map eLock)))), (66, .one (.c (.sl 6 ((p0.wait.take ((s2).toNat)).map eLock))))] [(1, [.bx [.fz (.sl 6 ((p0.held).map eLock)), .fz (.sl 6 ((p0.wait).map eLock))]])]) (by as_aux_lemma => kernel_rfl) (by simp [List.map_take, List.map_drop]) (by as_aux_lemma => kernel_rfl) ?_
                  refine aa_all [16] (by as_aux_lemma => kernel_rfl) rfl ?_
                  refine aa_cons ?_ aa_nil
                  refine aone_rows (d := 67) (d' := 68) (sz := 1) (f := 91) (xs := [.tmp 60, .tmp 67]) (ts := [[.c (.sl 6 ((p0.held).map eLock))], [.c (.sl 6 ((p0.wait.take ((s2).toNat)).map eLock))]]) (tl := [.c (.sl 6 ((p0.held).map eLock)), .c (.sl 6 ((p0.wait.take ((s2).toNat)).map eLock))]) (rows := [[.sl 6 ((p0.held).map eLock)], [.sl 6 ((p0.wait.take ((s2).toNat)).map eLock)]]) (cl := [.sl 6 ((p0.held).map eLock), .sl 6 ((p0.wait.take ((s2).toNat)).map eLock)]) (A' := [.agg [.c (iC x2.tx.c), .c (iC x2.tx.e), .c (iC x2.tx.n), .c (sC x2.range.lo), .c (sC x2.range.hi), .c (bC x2.ex)], .one (.c (.sl 1 ([[.sl 6 ((p0.held).map eLock)], [.sl 6 ((p0.wait.take ((s2).toNat)).map eLock)]])))]) (st1 := mk 71 [(1, .one (.pl [(1, 0)] 0 0)), (39, .one (.c (.sl 6 ((p0.wait).map eLock)))), (40, iV (((((p0.wait).map eLock).length : Nat) : Int))), (41, iV s2), (59, bV false), (68, bV r3)] [(1, [.bx [.fz (.sl 6 ((p0.held).map eLock)), .fz (.sl 6 ((p0.wait).map eLock))]])]) (j := 17) (fuel := 1) (listed1 := #[true, true, true, true, true, true, true, true, true, true, true, true, true, true, true, true, true, false, false]) (listed2 := #[true, true, true, true, true, true, true, true, true, true, true, true, true, true, true, true, true, true, false]) [1, 39, 40, 41, 59, 68] tyOK (k_i_isFree x2 ([p0.held, p0.wait.take ((s2).toNat)]) r3 er3) Try.call91 (by as_aux_lemma => kernel_rfl) (by as_aux_lemma => kernel_rfl) (by as_aux_lemma => kernel_rfl) (.cons (.same rfl) (.cons (.same rfl) .nil)) (by as_aux_lemma => kernel_rfl) (by as_aux_lemma => kernel_rfl) (.cons rfl (by as_aux_lemma => kernel_rfl) (.agg (.cons (.same rfl) (.cons (.same rfl) (.cons (.same rfl) (.cons (.same rfl) (.cons (.same rfl) (.cons (.same rfl) .nil))))))) (.hd .nil)) (by as_aux_lemma => kernel_rfl) clean_nil (by as_aux_lemma => kernel_rfl) (by as_aux_lemma => kernel_rfl) (by as_aux_lemma => kernel_rfl) (by as_aux_lemma => kernel_rfl) (by as_aux_lemma => kernel_rfl) ?_
                  refine aa_take (fuel := 0) (listed' := #[true, true, true, true, true, true, true, true, true, true, true, true, true, true, true, true, true, true, true]) (st' := mk 71 [(1, .one (.pl [(1, 0)] 0 0)), (39, .one (.c (.sl 6 ((p0.wait).map eLock)))), (40, iV (((((p0.wait).map eLock).length : Nat) : Int))), (41, iV s2), (69, bV r3)] [(1, [.bx [.fz (.sl 6 ((p0.held).map eLock)), .fz (.sl 6 ((p0.wait).map eLock))]])]) [18] [1, 39, 40, 41, 69] tyOK (by as_aux_lemma => kernel_rfl) (by as_aux_lemma => kernel_rfl) (by as_aux_lemma => kernel_rfl) ?_
                  refine aa_done (by as_aux_lemma => kernel_rfl) ?_
                  show _ = _; kernel_rfl
                obtain rfl := Option.some.inj h
                show ∃ _, _ ∧ Imp _ _ _
                refine ⟨_, rfl, ?_⟩
                exact imp_keepTo [1, 39, 40, 41, 69] (by as_aux_lemma => kernel_rfl) (imp_done rfl)
          intro j3 hj3
          replace h := ky6 _ hj3
          refine a_cond (b := j3) (by as_aux_lemma => kernel_rfl) (fun h8 => ?_) (fun h8 => ?_)
          · replace h := cT h8 h
            refine a_seq ?_
            refine a_run [2] tyOK (st1 := mk 71 [(2, bV false)] []) (by as_aux_lemma => kernel_rfl) ?_
            refine a_ret ?_
            obtain rfl := Option.some.inj h
            obtain rfl := zy5 _ rfl
            obtain rfl := zy4 _ rfl
            exact end_eq (res' := bV false) (by as_aux_lemma => kernel_rfl) (by first | rfl | simp)
          · replace h := cF h8 h
            refine a_skip ?_
            refine a_run [1, 39, 40, 41] tyOK (st1 := mk 71 [(1, .one (.pl [(1, 0)] 0 0)), (39, .one (.c (.sl 6 ((p0.wait).map eLock)))), (40, iV (((((p0.wait).map eLock).length : Nat) : Int))), (41, iV (IntKind.wrap .i64 (s2 + 1)))] [(1, [.bx [.fz (.sl 6 ((p0.held).map eLock)), .fz (.sl 6 ((p0.wait).map eLock))]])]) (by as_aux_lemma => kernel_rfl) ?_
            obtain rfl := Option.some.inj h
            show ∃ _, _ ∧ Imp _ _ _
            refine ⟨_, rfl, ?_⟩
            exact imp_keepTo [1, 39, 40, 41] (by as_aux_lemma => kernel_rfl) (imp_done rfl)
        · replace h := cF h5 h
          refine a_exit ?_
          obtain rfl := Option.some.inj h
          obtain rfl := zy5 _ rfl
          show ∃ _, _ ∧ Imp _ _ _
          refine ⟨_, rfl, ?_⟩
          exact imp_keepTo [] (by as_aux_lemma => kernel_rfl) (imp_done rfl)
      intro j4 hj4
      replace h := ky4 _ hj4
      refine a_seq ?_
      refine a_run [2] tyOK (st1 := mk 71 [(2, bV true)] []) (by as_aux_lemma => kernel_rfl) ?_
      refine a_ret ?_
      obtain rfl := Option.some.inj h
      exact end_eq (res' := bV true) (by as_aux_lemma => kernel_rfl) (by first | rfl | simp)

noncomputable def i_copyLocks (p0 : Locks) : Option (Locks) :=
 chk (((([] : List Lock)).length + (p0.held).length) * 64 ≤ 140737488355328) <|
 chk (((([] : List Lock)).length + (p0.wait).length) * 64 ≤ 140737488355328) <|
 some p0
set_option maxHeartbeats 4000000 in
/-- impl.copyLocks -/
theorem k_i_copyLocks (p0 : Locks) (v : Locks) (h : i_copyLocks p0 = some v) : CallOK Try.prog 69 [.agg [.c (.sl 6 ((p0.held).map eLock)), .c (.sl 6 ((p0.wait).map eLock))]] (.agg [.so [] 0 0 ((v.held).length), .so [] 0 1 ((v.wait).length)]) [.sl 6 ((v.held).map eLock), .sl 6 ((v.wait).map eLock)] :=
  callOK tyOK Try.func69 rfl fun w S hS => by
    unfold i_copyLocks at h
    refine a_seq ?_
    refine a_run [1, 2] tyOK (st1 := mk 10 [(1, .one (.pl [(1, 0)] 0 0)), (2, .one (.pl [(2, 0)] 0 0))] [(1, [.bx [.fz (.sl 6 ((p0.held).map eLock)), .fz (.sl 6 ((p0.wait).map eLock))]]), (2, [.bx [.sl 6 ([]), .sl 6 ([])]])]) (by kernel_rfl) ?_
    refine a_seq ?_
    obtain ⟨c1, h⟩ := chk_e h
    obtain ⟨c2, h⟩ := chk_e h
    refine a_mid (mk 10 [(2, .one (.pl [(2, 0)] 0 0))] [(2, [.bx [.sl 6 ((p0.held).map eLock), .sl 6 ((p0.wait).map eLock)]])]) ?_ ?_
    · refine a_drawn (n := 8) [2, 5, 7] (by kernel_rfl) (by kernel_rfl) ?_
      refine aa_take (fuel := 6) (listed' := #[true, true, false, false, false, false, false, false]) (st' := mk 10 [(1, .one (.pl [(1, 0)] 0 0)), (2, .one (.pl [(2, 0)] 0 0)), (4, .one (.c (.sl 6 ((p0.held).map eLock))))] [(1, [.bx [.fz (.sl 6 ((p0.held).map eLock)), .fz (.sl 6 ((p0.wait).map eLock))]]), (2, [.bx [.sl 6 ([]), .sl 6 ([])]])]) [0, 1] [1, 2, 4] tyOK (by kernel_rfl) (by kernel_rfl) (by kernel_rfl) ?_
      refine aa_all [2, 3] (by kernel_rfl) rfl ?_
      refine aa_cons ?_ ?_
      · refine aone_append (listed' := #[true, true, true, false, false, false, false, false]) (d := 5) (n := 0) (n' := ((p0.held).length)) (bytes := 64) (size := 6) (src := none) (rows := []) (tx := .one (.c (.sl 6 ((p0.held).map eLock)))) (new := ((p0.held).map eLock).map (List.map frzC)) (rows' := (p0.held).map eLock) (st1 := mk 10 [(1, .one (.pl [(1, 0)] 0 0)), (2, .one (.pl [(2, 0)] 0 0)), (5, .one (.so [] 5 0 ((p0.held).length)))] [(1, [.bx [.fz (.sl 6 ((p0.held).map eLock)), .fz (.sl 6 ((p0.wait).map eLock))]]), (2, [.bx [.sl 6 ([]), .sl 6 ([])]]), (5, [.sl 6 ((p0.held).map eLock)])]) [1, 2, 5] tyOK (by kernel_rfl) (appRows_fz (by simp [bC, eLock, eRange, eTx, frzC, iC, sC])) (by simp) (by simpa using c1) (by kernel_rfl) (by simp [bC, eLock, eRange, eTx, frzC, iC, sC]) (by simp) (by kernel_rfl) (by kernel_rfl) (by kernel_rfl) ?_
        refine aa_take (fuel := 3) (listed' := #[true, true, true, true, true, false, false, false]) (st' := mk 10 [(2, .one (.pl [(2, 0)] 0 0)), (5, .one (.so [] 5 0 ((p0.held).length))), (7, .one (.c (.sl 6 ((p0.wait).map eLock))))] [(2, [.bx [.sl 6 ([]), .sl 6 ([])]]), (5, [.sl 6 ((p0.held).map eLock)])]) [3, 4] [2, 5, 7] tyOK (by kernel_rfl) (by kernel_rfl) (by kernel_rfl) ?_
        refine aa_all [5] (by kernel_rfl) rfl ?_
        refine aa_cons ?_ aa_nil
        refine aone_append (listed' := #[true, true, true, true, true, true, false, false]) (d := 8) (n := 0) (n' := ((p0.wait).length)) (bytes := 64) (size := 6) (src := none) (rows := []) (tx := .one (.c (.sl 6 ((p0.wait).map eLock)))) (new := ((p0.wait).map eLock).map (List.map frzC)) (rows' := (p0.wait).map eLock) (st1 := mk 10 [(2, .one (.pl [(2, 0)] 0 0)), (5, .one (.so [] 5 0 ((p0.held).length))), (8, .one (.so [] 8 0 ((p0.wait).length)))] [(2, [.bx [.sl 6 ([]), .sl 6 ([])]]), (5, [.sl 6 ((p0.held).map eLock)]), (8, [.sl 6 ((p0.wait).map eLock)])]) [2, 5, 8] tyOK (by kernel_rfl) (appRows_fz (by simp [bC, eLock, eRange, eTx, frzC, iC, sC])) (by simp) (by simpa using c2) (by kernel_rfl) (by simp [bC, eLock, eRange, eTx, frzC, iC, sC]) (by simp) (by kernel_rfl) (by kernel_rfl) (by kernel_rfl) ?_
        refine aa_all [6] (by kernel_rfl) rfl ?_
        refine aa_cons ?_ aa_nil
        refine aone_any (listed' := #[true, true, true, true, true, true, true, false]) (st1 := mk 10 [(2, .one (.pl [(2, 0)] 0 0)), (9, .agg [.so [] 5 0 ((p0.held).length), .so [] 8 0 ((p0.wait).length)])] [(2, [.bx [.sl 6 ([]), .sl 6 ([])]]), (5, [.sl 6 ((p0.held).map eLock)]), (8, [.sl 6 ((p0.wait).map eLock)])]) [2, 9] tyOK (by kernel_rfl) (by kernel_rfl) ?_
        refine aa_all [7] (by kernel_rfl) rfl ?_
        refine aa_cons ?_ aa_nil
        refine aone_o (ob := [(((p0.held).map eLock).length, (p0.held).length), (((p0.wait).map eLock).length, (p0.wait).length)]) (listed' := #[true, true, true, true, true, true, true, true]) (st1 := mk 10 [(2, .one (.pl [(2, 0)] 0 0))] [(2, [.bx [.sl 6 ((p0.held).map eLock), .sl 6 ((p0.wait).map eLock)]])]) [2] tyOK (by kernel_rfl) ⟨by simp, by simp, trivial⟩ (by kernel_rfl) (by kernel_rfl) ?_
        refine aa_done (by kernel_rfl) ?_
        show _ = _; kernel_rfl
      refine aa_cons ?_ aa_nil
      refine aone_any (listed' := #[true, true, false, true, false, false, false, false]) (st1 := mk 10 [(2, .one (.pl [(2, 0)] 0 0)), (4, .one (.c (.sl 6 ((p0.held).map eLock)))), (6, .one (.pl [(1, 0)] 0 1))] [(1, [.bx [.fz (.sl 6 ((p0.held).map eLock)), .fz (.sl 6 ((p0.wait).map eLock))]]), (2, [.bx [.sl 6 ([]), .sl 6 ([])]])]) [2, 4, 6] tyOK (by kernel_rfl) (by kernel_rfl) ?_
      refine aa_all [2, 4] (by kernel_rfl) rfl ?_
      refine aa_cons ?_ ?_
      · refine aone_append (listed' := #[true, true, true, true, false, false, false, false]) (d := 5) (n := 0) (n' := ((p0.held).length)) (bytes := 64) (size := 6) (src := none) (rows := []) (tx := .one (.c (.sl 6 ((p0.held).map eLock)))) (new := ((p0.held).map eLock).map (List.map frzC)) (rows' := (p0.held).map eLock) (st1 := mk 10 [(2, .one (.pl [(2, 0)] 0 0)), (5, .one (.so [] 5 0 ((p0.held).length))), (6, .one (.pl [(1, 0)] 0 1))] [(1, [.bx [.fz (.sl 6 ((p0.held).map eLock)), .fz (.sl 6 ((p0.wait).map eLock))]]), (2, [.bx [.sl 6 ([]), .sl 6 ([])]]), (5, [.sl 6 ((p0.held).map eLock)])]) [2, 5, 6] tyOK (by kernel_rfl) (appRows_fz (by simp [bC, eLock, eRange, eTx, frzC, iC, sC])) (by simp) (by simpa using c1) (by kernel_rfl) (by simp [bC, eLock, eRange, eTx, frzC, iC, sC]) (by simp) (by kernel_rfl) (by kernel_rfl) (by kernel_rfl) ?_
        refine aa_take (fuel := 3) (listed' := #[true, true, true, true, true, false, false, false]) (st' := mk 10 [(2, .one (.pl [(2, 0)] 0 0)), (5, .one (.so [] 5 0 ((p0.held).length))), (7, .one (.c (.sl 6 ((p0.wait).map eLock))))] [(2, [.bx [.sl 6 ([]), .sl 6 ([])]]), (5, [.sl 6 ((p0.held).map eLock)])]) [4] [2, 5, 7] tyOK (by kernel_rfl) (by kernel_rfl) (by kernel_rfl) ?_
        refine aa_all [5] (by kernel_rfl) rfl ?_
        refine aa_cons ?_ aa_nil
        refine aone_append (listed' := #[true, true, true, true, true, true, false, false]) (d := 8) (n := 0) (n' := ((p0.wait).length)) (bytes := 64) (size := 6) (src := none) (rows := []) (tx := .one (.c (.sl 6 ((p0.wait).map eLock)))) (new := ((p0.wait).map eLock).map (List.map frzC)) (rows' := (p0.wait).map eLock) (st1 := mk 10 [(2, .one (.pl [(2, 0)] 0 0)), (5, .one (.so [] 5 0 ((p0.held).length))), (8, .one (.so [] 8 0 ((p0.wait).length)))] [(2, [.bx [.sl 6 ([]), .sl 6 ([])]]), (5, [.sl 6 ((p0.held).map eLock)]), (8, [.sl 6 ((p0.wait).map eLock)])]) [2, 5, 8] tyOK (by kernel_rfl) (appRows_fz (by simp [bC, eLock, eRange, eTx, frzC, iC, sC])) (by simp) (by simpa using c2) (by kernel_rfl) (by simp [bC, eLock, eRange, eTx, frzC, iC, sC]) (by simp) (by kernel_rfl) (by kernel_rfl) (by kernel_rfl) ?_
        refine aa_all [6] (by kernel_rfl) rfl ?_
        refine aa_cons ?_ aa_nil
        refine aone_any (listed' := #[true, true, true, true, true, true, true, false]) (st1 := mk 10 [(2, .one (.pl [(2, 0)] 0 0)), (9, .agg [.so [] 5 0 ((p0.held).length), .so [] 8 0 ((p0.wait).length)])] [(2, [.bx [.sl 6 ([]), .sl 6 ([])]]), (5, [.sl 6 ((p0.held).map eLock)]), (8, [.sl 6 ((p0.wait).map eLock)])]) [2, 9] tyOK (by kernel_rfl) (by kernel_rfl) ?_
        refine aa_all [7] (by kernel_rfl) rfl ?_
        refine aa_cons ?_ aa_nil
        refine aone_o (ob := [(((p0.held).map eLock).length, (p0.held).length), (((p0.wait).map eLock).length, (p0.wait).length)]) (listed' := #[true, true, true, true, true, true, true, true]) (st1 := mk 10 [(2, .one (.pl [(2, 0)] 0 0))] [(2, [.bx [.sl 6 ((p0.held).map eLock), .sl 6 ((p0.wait).map eLock)]])]) [2] tyOK (by kernel_rfl) ⟨by simp, by simp, trivial⟩ (by kernel_rfl) (by kernel_rfl) ?_
        refine aa_done (by kernel_rfl) ?_
        show _ = _; kernel_rfl
      refine aa_cons ?_ aa_nil
      refine aone_any (listed' := #[true, true, false, true, true, false, false, false]) (st1 := mk 10 [(2, .one (.pl [(2, 0)] 0 0)), (4, .one (.c (.sl 6 ((p0.held).map eLock)))), (7, .one (.c (.sl 6 ((p0.wait).map eLock))))] [(2, [.bx [.sl 6 ([]), .sl 6 ([])]])]) [2, 4, 7] tyOK (by kernel_rfl) (by kernel_rfl) ?_
      refine aa_all [2] (by kernel_rfl) rfl ?_
      refine aa_cons ?_ aa_nil
      refine aone_append (listed' := #[true, true, true, true, true, false, false, false]) (d := 5) (n := 0) (n' := ((p0.held).length)) (bytes := 64) (size := 6) (src := none) (rows := []) (tx := .one (.c (.sl 6 ((p0.held).map eLock)))) (new := ((p0.held).map eLock).map (List.map frzC)) (rows' := (p0.held).map eLock) (st1 := mk 10 [(2, .one (.pl [(2, 0)] 0 0)), (5, .one (.so [] 5 0 ((p0.held).length))), (7, .one (.c (.sl 6 ((p0.wait).map eLock))))] [(2, [.bx [.sl 6 ([]), .sl 6 ([])]]), (5, [.sl 6 ((p0.held).map eLock)])]) [2, 5, 7] tyOK (by kernel_rfl) (appRows_fz (by simp [bC, eLock, eRange, eTx, frzC, iC, sC])) (by simp) (by simpa using c1) (by kernel_rfl) (by simp [bC, eLock, eRange, eTx, frzC, iC, sC]) (by simp) (by kernel_rfl) (by kernel_rfl) (by kernel_rfl) ?_
      refine aa_all [5] (by kernel_rfl) rfl ?_
      refine aa_cons ?_ aa_nil
      refine aone_append (listed' := #[true, true, true, true, true, true, false, false]) (d := 8) (n := 0) (n' := ((p0.wait).length)) (bytes := 64) (size := 6) (src := none) (rows := []) (tx := .one (.c (.sl 6 ((p0.wait).map eLock)))) (new := ((p0.wait).map eLock).map (List.map frzC)) (rows' := (p0.wait).map eLock) (st1 := mk 10 [(2, .one (.pl [(2, 0)] 0 0)), (5, .one (.so [] 5 0 ((p0.held).length))), (8, .one (.so [] 8 0 ((p0.wait).length)))] [(2, [.bx [.sl 6 ([]), .sl 6 ([])]]), (5, [.sl 6 ((p0.held).map eLock)]), (8, [.sl 6 ((p0.wait).map eLock)])]) [2, 5, 8] tyOK (by kernel_rfl) (appRows_fz (by simp [bC, eLock, eRange, eTx, frzC, iC, sC])) (by simp) (by simpa using c2) (by kernel_rfl) (by simp [bC, eLock, eRange, eTx, frzC, iC, sC]) (by simp) (by kernel_rfl) (by kernel_rfl) (by kernel_rfl) ?_
      refine aa_all [6] (by kernel_rfl) rfl ?_
      refine aa_cons ?_ aa_nil
      refine aone_any (listed' := #[true, true, true, true, true, true, true, false]) (st1 := mk 10 [(2, .one (.pl [(2, 0)] 0 0)), (9, .agg [.so [] 5 0 ((p0.held).length), .so [] 8 0 ((p0.wait).length)])] [(2, [.bx [.sl 6 ([]), .sl 6 ([])]]), (5, [.sl 6 ((p0.held).map eLock)]), (8, [.sl 6 ((p0.wait).map eLock)])]) [2, 9] tyOK (by kernel_rfl) (by kernel_rfl) ?_
      refine aa_all [7] (by kernel_rfl) rfl ?_
      refine aa_cons ?_ aa_nil
      refine aone_o (ob := [(((p0.held).map eLock).length, (p0.held).length), (((p0.wait).map eLock).length, (p0.wait).length)]) (listed' := #[true, true, true, true, true, true, true, true]) (st1 := mk 10 [(2, .one (.pl [(2, 0)] 0 0))] [(2, [.bx [.sl 6 ((p0.held).map eLock), .sl 6 ((p0.wait).map eLock)]])]) [2] tyOK (by kernel_rfl) ⟨by simp, by simp, trivial⟩ (by kernel_rfl) (by kernel_rfl) ?_
      refine aa_done (by kernel_rfl) ?_
      show _ = _; kernel_rfl
    refine a_ret ?_
    obtain rfl := Option.some.inj h
    exact end_own (ob := [(((p0.held).map eLock).length, ((p0.held).map eLock).length), (((p0.wait).map eLock).length, ((p0.wait).map eLock).length)]) (res' := .agg [.so [] 0 0 (((p0.held).map eLock).length), .so [] 0 1 (((p0.wait).map eLock).length)]) (row' := [.sl 6 ((p0.held).map eLock), .sl 6 ((p0.wait).map eLock)]) (by kernel_rfl) ⟨by simp, by simp, trivial⟩ (by first | rfl | simp) (by first | rfl | simp)

noncomputable def i_Locks_ask (p0 : Locks) (p1 : Lock) : Option (Locks × Int) :=
 bnd (i_Locks_waits p0 p1.tx) fun r1 =>
 bif r1 then
 (some ((p0, 1)))
 else
 (bif (((IntKind.wrap .i64 ((((((p0.held).map eLock).length : Nat) : Int)) + (((((p0.wait).map eLock).length : Nat) : Int)))) == 60)) then
 (some ((p0, 2)))
 else
 (bnd (i_isFree p1 ([p0.held, p0.wait])) fun r2 =>
 bif r2 then
 (chk (((p0.held).length + (([p1] : List Lock)).length) * 64 ≤ 140737488355328) <|
 some (((⟨p0.held ++ ([p1] : List Lock), p0.wait⟩ : Locks), 0)))
 else
 (chk (((p0.wait).length + (([p1] : List Lock)).length) * 64 ≤ 140737488355328) <|
 some (((⟨p0.held, p0.wait ++ ([p1] : List Lock)⟩ : Locks), 3)))))
set_option maxHeartbeats 4000000 in
/-- (*impl.Locks).ask -/
theorem k_i_Locks_ask (p0 : Locks) (p1 : Lock) (v : Locks × Int) (h : i_Locks_ask p0 p1 = some v) : CallG Try.prog 70 [.bx [.sl 6 ((p0.held).map eLock), .sl 6 ((p0.wait).map eLock)]] [.one (.pl [(0, 0)] 0 0), .agg [.c (iC p1.tx.c), .c (iC p1.tx.e), .c (iC p1.tx.n), .c (sC p1.range.lo), .c (sC p1.range.hi), .c (bC p1.ex)]] [.bx [.sl 6 ((v.1.held).map eLock), .sl 6 ((v.1.wait).map eLock)]] (iV v.2) [] :=
  callG tyOK Try.func70 rfl (by simp) fun w S γ hS => by
    unfold i_Locks_ask at h
    refine a_seq ?_
    refine a_run [0, 3] tyOK (st1 := mk 55 [(0, .one (.pl [(0, 0)] 0 0)), (3, .one (.pl [(3, 0)] 0 0))] [(0, [.bx [.sl 6 ((p0.held).map eLock), .sl 6 ((p0.wait).map eLock)]]), (3, [.bx [iC p1.tx.c, iC p1.tx.e, iC p1.tx.n, sC p1.range.lo, sC p1.range.hi, bC p1.ex]])]) (by kernel_rfl) ?_
    refine a_seq ?_
    refine a_block ?_
    refine a_seq ?_
    refine a_ops [0, 1, 2, 3, 4] (by kernel_rfl) ?_
    refine ao_some [0, 1, 2] [3, 4] [0, 3, 6, 8] tyOK (st1 := mk 55 [(0, .one (.pl [(0, 0)] 0 0)), (3, .one (.pl [(3, 0)] 0 0)), (6, .one (.pl [(0, 0)] 0 0)), (8, .agg [.c (iC p1.tx.c), .c (iC p1.tx.e), .c (iC p1.tx.n)])] [(0, [.bx [.sl 6 ((p0.held).map eLock), .sl 6 ((p0.wait).map eLock)]]), (3, [.bx [iC p1.tx.c, iC p1.tx.e, iC p1.tx.n, sC p1.range.lo, sC p1.range.hi, bC p1.ex]])]) (by kernel_rfl) ?_
    obtain ⟨r1, er1, h⟩ := bnd_e h
    refine ao_lend (f := 92) (d := 9) (A := [.one (.pl [(0, 0)] 0 0), .agg [.c (iC p1.tx.c), .c (iC p1.tx.e), .c (iC p1.tx.n)]]) (A' := [.one (.c (.bx [.sl 6 ((p0.held).map eLock), .sl 6 ((p0.wait).map eLock)])), .agg [.c (iC p1.tx.c), .c (iC p1.tx.e), .c (iC p1.tx.n)]]) (st1 := mk 55 [(0, .one (.pl [(0, 0)] 0 0)), (3, .one (.pl [(3, 0)] 0 0)), (9, bV r1)] [(0, [.bx [.sl 6 ((p0.held).map eLock), .sl 6 ((p0.wait).map eLock)]]), (3, [.bx [iC p1.tx.c, iC p1.tx.e, iC p1.tx.n, sC p1.range.lo, sC p1.range.hi, bC p1.ex]])]) [0, 3, 9] (k_i_Locks_waits p0 p1.tx r1 er1) Try.call92 (by kernel_rfl) (.cons (.one (lend_bx [] 0 0 rfl (by kernel_rfl))) (.cons (.agg (.cons (.same rfl) (.cons (.same rfl) (.cons (.same rfl) .nil)))) .nil)) (by kernel_rfl) (clean_nil) (by kernel_rfl) (by kernel_rfl) ?_
    refine ao_some [4] [] [0, 3, 5] tyOK (st1 := mk 55 [(0, .one (.pl [(0, 0)] 0 0)), (3, .one (.pl [(3, 0)] 0 0)), (5, bV r1)] [(0, [.bx [.sl 6 ((p0.held).map eLock), .sl 6 ((p0.wait).map eLock)]]), (3, [.bx [iC p1.tx.c, iC p1.tx.e, iC p1.tx.n, sC p1.range.lo, sC p1.range.hi, bC p1.ex]])]) (by kernel_rfl) ?_
    refine ao_nil ?_
    refine a_cond (b := r1) (by kernel_rfl) (fun h1 => ?_) (fun h1 => ?_)
    · replace h := cT h1 h
      refine a_seq ?_
      refine a_run [0, 4] tyOK (st1 := mk 55 [(0, .one (.pl [(0, 0)] 0 0)), (4, iV 1)] [(0, [.bx [.sl 6 ((p0.held).map eLock), .sl 6 ((p0.wait).map eLock)]])]) (by kernel_rfl) ?_
      refine a_ret ?_
      obtain rfl := Option.some.inj h
      exact end_g (ob := []) (outs' := [.bx [.sl 6 ((p0.held).map eLock), .sl 6 ((p0.wait).map eLock)]]) (res' := iV 1) (row' := []) (by kernel_rfl) trivial (by first | rfl | simp) (by first | rfl | simp) (by first | rfl | simp)
    · replace h := cF h1 h
      refine a_seq ?_
      refine a_mid (mk 55 [(0, .one (.pl [(0, 0)] 0 0)), (3, .one (.pl [(3, 0)] 0 0)), (10, bV (((IntKind.wrap .i64 ((((((p0.held).map eLock).length : Nat) : Int)) + (((((p0.wait).map eLock).length : Nat) : Int)))) == 60)))] [(0, [.bx [.sl 6 ((p0.held).map eLock), .sl 6 ((p0.wait).map eLock)]]), (3, [.bx [iC p1.tx.c, iC p1.tx.e, iC p1.tx.n, sC p1.range.lo, sC p1.range.hi, bC p1.ex]])]) ?_ ?_
      · refine a_drawn (n := 13) [] (by kernel_rfl) (by kernel_rfl) ?_
        refine aa_take (fuel := 0) (listed' := #[true, true, true, true, true, true, true, true, true, true, true, true, true]) (st' := mk 55 [(0, .one (.pl [(0, 0)] 0 0)), (3, .one (.pl [(3, 0)] 0 0)), (10, bV (((IntKind.wrap .i64 ((((((p0.held).map eLock).length : Nat) : Int)) + (((((p0.wait).map eLock).length : Nat) : Int)))) == 60)))] [(0, [.bx [.sl 6 ((p0.held).map eLock), .sl 6 ((p0.wait).map eLock)]]), (3, [.bx [iC p1.tx.c, iC p1.tx.e, iC p1.tx.n, sC p1.range.lo, sC p1.range.hi, bC p1.ex]])]) [0, 1, 2, 3, 4, 5, 6, 7, 8, 9, 10, 11, 12] [0, 3, 10] tyOK (by kernel_rfl) (by kernel_rfl) (by kernel_rfl) ?_
        refine aa_done (by kernel_rfl) ?_
        show _ = _; kernel_rfl
      refine a_cond (b := ((IntKind.wrap .i64 ((((((p0.held).map eLock).length : Nat) : Int)) + (((((p0.wait).map eLock).length : Nat) : Int)))) == 60)) (by kernel_rfl) (fun h2 => ?_) (fun h2 => ?_)
      · replace h := cT h2 h
        refine a_seq ?_
        refine a_run [0, 4] tyOK (st1 := mk 55 [(0, .one (.pl [(0, 0)] 0 0)), (4, iV 2)] [(0, [.bx [.sl 6 ((p0.held).map eLock), .sl 6 ((p0.wait).map eLock)]])]) (by kernel_rfl) ?_
        refine a_ret ?_
        obtain rfl := Option.some.inj h
        exact end_g (ob := []) (outs' := [.bx [.sl 6 ((p0.held).map eLock), .sl 6 ((p0.wait).map eLock)]]) (res' := iV 2) (row' := []) (by kernel_rfl) trivial (by first | rfl | simp) (by first | rfl | simp) (by first | rfl | simp)
      · replace h := cF h2 h
        refine a_seq ?_
        obtain ⟨r2, er2, h⟩ := bnd_e h
        refine a_mid (mk 55 [(0, .one (.pl [(0, 0)] 0 0)), (3, .one (.pl [(3, 0)] 0 0)), (23, bV r2)] [(0, [.bx [.sl 6 ((p0.held).map eLock), .sl 6 ((p0.wait).map eLock)]]), (3, [.bx [iC p1.tx.c, iC p1.tx.e, iC p1.tx.n, sC p1.range.lo, sC p1.range.hi, bC p1.ex]])]) ?_ ?_
        · refine a_drawn (n := 12) [] (by kernel_rfl) (by kernel_rfl) ?_
          refine aa_take (fuel := 3) (listed' := #[true, true, true, true, true, true, true, true, true, false, false, false]) (st' := mk 55 [(0, .one (.pl [(0, 0)] 0 0)), (3, .one (.pl [(3, 0)] 0 0)), (24, .agg [.c (iC p1.tx.c), .c (iC p1.tx.e), .c (iC p1.tx.n), .c (sC p1.range.lo), .c (sC p1.range.hi), .c (bC p1.ex)]), (28, .one (.so [(0, 0)] 0 0 (((p0.held).map eLock).length))), (32, .one (.so [(0, 0)] 0 1 (((p0.wait).map eLock).length)))] [(0, [.bx [.sl 6 ((p0.held).map eLock), .sl 6 ((p0.wait).map eLock)]]), (3, [.bx [iC p1.tx.c, iC p1.tx.e, iC p1.tx.n, sC p1.range.lo, sC p1.range.hi, bC p1.ex]])]) [0, 1, 2, 3, 4, 5, 6, 7, 8] [0, 3, 24, 28, 32] tyOK (by kernel_rfl) (by kernel_rfl) (by kernel_rfl) ?_
          refine aa_all [9] (by kernel_rfl) rfl ?_
          refine aa_cons ?_ aa_nil
          refine aone_rows (d := 33) (d' := 34) (sz := 1) (f := 91) (xs := [.tmp 24, .tmp 33]) (ts := [[.so [(0, 0)] 0 0 (((p0.held).map eLock).length)], [.so [(0, 0)] 0 1 (((p0.wait).map eLock).length)]]) (tl := [.so [(0, 0)] 0 0 (((p0.held).map eLock).length), .so [(0, 0)] 0 1 (((p0.wait).map eLock).length)]) (rows := [[.sl 6 ((p0.held).map eLock)], [.sl 6 ((p0.wait).map eLock)]]) (cl := [.sl 6 ((p0.held).map eLock), .sl 6 ((p0.wait).map eLock)]) (A' := [.agg [.c (iC p1.tx.c), .c (iC p1.tx.e), .c (iC p1.tx.n), .c (sC p1.range.lo), .c (sC p1.range.hi), .c (bC p1.ex)], .one (.c (.sl 1 ([[.sl 6 ((p0.held).map eLock)], [.sl 6 ((p0.wait).map eLock)]])))]) (st1 := mk 55 [(0, .one (.pl [(0, 0)] 0 0)), (3, .one (.pl [(3, 0)] 0 0)), (34, bV r2)] [(0, [.bx [.sl 6 ((p0.held).map eLock), .sl 6 ((p0.wait).map eLock)]]), (3, [.bx [iC p1.tx.c, iC p1.tx.e, iC p1.tx.n, sC p1.range.lo, sC p1.range.hi, bC p1.ex]])]) (j := 10) (fuel := 1) (listed1 := #[true, true, true, true, true, true, true, true, true, true, false, false]) (listed2 := #[true, true, true, true, true, true, true, true, true, true, true, false]) [0, 3, 34] tyOK (k_i_isFree p1 ([p0.held, p0.wait]) r2 er2) Try.call91 (by kernel_rfl) (by kernel_rfl) (by kernel_rfl) (.cons (lend_so (by kernel_rfl) (by simp)) (.cons (lend_so (by kernel_rfl) (by simp)) .nil)) (by kernel_rfl) (by kernel_rfl) (.cons rfl (by kernel_rfl) (.agg (.cons (.same rfl) (.cons (.same rfl) (.cons (.same rfl) (.cons (.same rfl) (.cons (.same rfl) (.cons (.same rfl) .nil))))))) (.hd .nil)) (by kernel_rfl) clean_nil (by kernel_rfl) (by kernel_rfl) (by kernel_rfl) (by kernel_rfl) (by kernel_rfl) ?_
          refine aa_take (fuel := 0) (listed' := #[true, true, true, true, true, true, true, true, true, true, true, true]) (st' := mk 55 [(0, .one (.pl [(0, 0)] 0 0)), (3, .one (.pl [(3, 0)] 0 0)), (23, bV r2)] [(0, [.bx [.sl 6 ((p0.held).map eLock), .sl 6 ((p0.wait).map eLock)]]), (3, [.bx [iC p1.tx.c, iC p1.tx.e, iC p1.tx.n, sC p1.range.lo, sC p1.range.hi, bC p1.ex]])]) [11] [0, 3, 23] tyOK (by kernel_rfl) (by kernel_rfl) (by kernel_rfl) ?_
          refine aa_done (by kernel_rfl) ?_
          show _ = _; kernel_rfl
        refine a_cond (b := r2) (by kernel_rfl) (fun h3 => ?_) (fun h3 => ?_)
        · replace h := cT h3 h
          refine a_seq ?_
          obtain ⟨c1, h⟩ := chk_e h
          refine a_mid (mk 55 [(0, .one (.pl [(0, 0)] 0 0))] [(0, [.bx [.sl 6 ((p0.held ++ ([p1] : List Lock)).map eLock), .sl 6 ((p0.wait).map eLock)]])]) ?_ ?_
          · refine a_drawn (n := 11) [7, 10] (by kernel_rfl) (by kernel_rfl) ?_
            refine aa_take (fuel := 6) (listed' := #[false, true, true, true, true, true, false, false, false, false, false]) (st' := mk 55 [(0, .one (.pl [(0, 0)] 0 0)), (39, .one (.so [(0, 0)] 0 0 (((p0.held).map eLock).length))), (40, .agg [.c (iC p1.tx.c), .c (iC p1.tx.e), .c (iC p1.tx.n), .c (sC p1.range.lo), .c (sC p1.range.hi), .c (bC p1.ex)])] [(0, [.bx [.sl 6 ((p0.held).map eLock), .sl 6 ((p0.wait).map eLock)]])]) [1, 2, 3, 4, 5] [0, 39, 40] tyOK (by kernel_rfl) (by kernel_rfl) (by kernel_rfl) ?_
            refine aa_all [0, 6] (by kernel_rfl) rfl ?_
            refine aa_cons ?_ ?_
            · refine aone_any (listed' := #[true, true, true, true, true, true, false, false, false, false, false]) (st1 := mk 55 [(0, .one (.pl [(0, 0)] 0 0)), (35, .one (.pl [(0, 0)] 0 0)), (39, .one (.so [(0, 0)] 0 0 (((p0.held).map eLock).length))), (40, .agg [.c (iC p1.tx.c), .c (iC p1.tx.e), .c (iC p1.tx.n), .c (sC p1.range.lo), .c (sC p1.range.hi), .c (bC p1.ex)])] [(0, [.bx [.sl 6 ((p0.held).map eLock), .sl 6 ((p0.wait).map eLock)]])]) [0, 35, 39, 40] tyOK (by kernel_rfl) (by kernel_rfl) ?_
              refine aa_all [6] (by kernel_rfl) rfl ?_
              refine aa_cons ?_ aa_nil
              refine aone_any (listed' := #[true, true, true, true, true, true, true, false, false, false, false]) (st1 := mk 55 [(0, .one (.pl [(0, 0)] 0 0)), (35, .one (.pl [(0, 0)] 0 0)), (39, .one (.so [(0, 0)] 0 0 (((p0.held).map eLock).length))), (41, .one (.so [] 41 0 1))] [(0, [.bx [.sl 6 ((p0.held).map eLock), .sl 6 ((p0.wait).map eLock)]]), (41, [.sl 6 ([[iC p1.tx.c, iC p1.tx.e, iC p1.tx.n, sC p1.range.lo, sC p1.range.hi, bC p1.ex]])])]) [0, 35, 39, 41] tyOK (by kernel_rfl) (by kernel_rfl) ?_
              refine aa_all [7] (by kernel_rfl) rfl ?_
              refine aa_cons ?_ aa_nil
              refine aone_append (listed' := #[true, true, true, true, true, true, true, true, false, false, false]) (d := 42) (n := (((p0.held).map eLock).length)) (n' := ((p0.held ++ ([p1] : List Lock)).length)) (bytes := 64) (size := 6) (src := (some ([(0, 0)], 0, 0))) (rows := (p0.held).map eLock) (tx := .one (.so [] 41 0 1)) (new := [[iC p1.tx.c, iC p1.tx.e, iC p1.tx.n, sC p1.range.lo, sC p1.range.hi, bC p1.ex]]) (rows' := (p0.held ++ ([p1] : List Lock)).map eLock) (st1 := mk 55 [(0, .one (.pl [(0, 0)] 0 0)), (35, .one (.pl [(0, 0)] 0 0)), (42, .one (.so [] 42 0 ((p0.held ++ ([p1] : List Lock)).length)))] [(0, [.bx [.dead, .sl 6 ((p0.wait).map eLock)]]), (42, [.sl 6 ((p0.held ++ ([p1] : List Lock)).map eLock)])]) [0, 35, 42] tyOK (by kernel_rfl) (by kernel_rfl) (by simp) (by simpa using c1) (by kernel_rfl) (by simp [bC, eLock, eRange, eTx, frzC, iC, sC]) (by simp) (by kernel_rfl) (by kernel_rfl) (by kernel_rfl) ?_
              refine aa_take (fuel := 1) (listed' := #[true, true, true, true, true, true, true, true, true, true, false]) (st' := mk 55 [(0, .one (.pl [(0, 0)] 0 0)), (42, .one (.so [] 42 0 ((p0.held ++ ([p1] : List Lock)).length))), (44, .one (.pl [(0, 0)] 0 0))] [(0, [.bx [.dead, .sl 6 ((p0.wait).map eLock)]]), (42, [.sl 6 ((p0.held ++ ([p1] : List Lock)).map eLock)])]) [8, 9] [0, 42, 44] tyOK (by kernel_rfl) (by kernel_rfl) (by kernel_rfl) ?_
              refine aa_all [10] (by kernel_rfl) rfl ?_
              refine aa_cons ?_ aa_nil
              refine aone_o (ob := [(((p0.held ++ ([p1] : List Lock)).map eLock).length, (p0.held ++ ([p1] : List Lock)).length)]) (listed' := #[true, true, true, true, true, true, true, true, true, true, true]) (st1 := mk 55 [(0, .one (.pl [(0, 0)] 0 0))] [(0, [.bx [.sl 6 ((p0.held ++ ([p1] : List Lock)).map eLock), .sl 6 ((p0.wait).map eLock)]])]) [0] tyOK (by kernel_rfl) ⟨by simp, trivial⟩ (by kernel_rfl) (by kernel_rfl) ?_
              refine aa_done (by kernel_rfl) ?_
              show _ = _; kernel_rfl
            refine aa_cons ?_ aa_nil
            refine aone_any (listed' := #[false, true, true, true, true, true, true, false, false, false, false]) (st1 := mk 55 [(0, .one (.pl [(0, 0)] 0 0)), (39, .one (.so [(0, 0)] 0 0 (((p0.held).map eLock).length))), (41, .one (.so [] 41 0 1))] [(0, [.bx [.sl 6 ((p0.held).map eLock), .sl 6 ((p0.wait).map eLock)]]), (41, [.sl 6 ([[iC p1.tx.c, iC p1.tx.e, iC p1.tx.n, sC p1.range.lo, sC p1.range.hi, bC p1.ex]])])]) [0, 39, 41] tyOK (by kernel_rfl) (by kernel_rfl) ?_
            refine aa_all [0, 7] (by kernel_rfl) rfl ?_
            refine aa_cons ?_ ?_
            · refine aone_any (listed' := #[true, true, true, true, true, true, true, false, false, false, false]) (st1 := mk 55 [(0, .one (.pl [(0, 0)] 0 0)), (35, .one (.pl [(0, 0)] 0 0)), (39, .one (.so [(0, 0)] 0 0 (((p0.held).map eLock).length))), (41, .one (.so [] 41 0 1))] [(0, [.bx [.sl 6 ((p0.held).map eLock), .sl 6 ((p0.wait).map eLock)]]), (41, [.sl 6 ([[iC p1.tx.c, iC p1.tx.e, iC p1.tx.n, sC p1.range.lo, sC p1.range.hi, bC p1.ex]])])]) [0, 35, 39, 41] tyOK (by kernel_rfl) (by kernel_rfl) ?_
              refine aa_all [7] (by kernel_rfl) rfl ?_
              refine aa_cons ?_ aa_nil
              refine aone_append (listed' := #[true, true, true, true, true, true, true, true, false, false, false]) (d := 42) (n := (((p0.held).map eLock).length)) (n' := ((p0.held ++ ([p1] : List Lock)).length)) (bytes := 64) (size := 6) (src := (some ([(0, 0)], 0, 0))) (rows := (p0.held).map eLock) (tx := .one (.so [] 41 0 1)) (new := [[iC p1.tx.c, iC p1.tx.e, iC p1.tx.n, sC p1.range.lo, sC p1.range.hi, bC p1.ex]]) (rows' := (p0.held ++ ([p1] : List Lock)).map eLock) (st1 := mk 55 [(0, .one (.pl [(0, 0)] 0 0)), (35, .one (.pl [(0, 0)] 0 0)), (42, .one (.so [] 42 0 ((p0.held ++ ([p1] : List Lock)).length)))] [(0, [.bx [.dead, .sl 6 ((p0.wait).map eLock)]]), (42, [.sl 6 ((p0.held ++ ([p1] : List Lock)).map eLock)])]) [0, 35, 42] tyOK (by kernel_rfl) (by kernel_rfl) (by simp) (by simpa using c1) (by kernel_rfl) (by simp [bC, eLock, eRange, eTx, frzC, iC, sC]) (by simp) (by kernel_rfl) (by kernel_rfl) (by kernel_rfl) ?_
              refine aa_take (fuel := 1) (listed' := #[true, true, true, true, true, true, true, true, true, true, false]) (st' := mk 55 [(0, .one (.pl [(0, 0)] 0 0)), (42, .one (.so [] 42 0 ((p0.held ++ ([p1] : List Lock)).length))), (44, .one (.pl [(0, 0)] 0 0))] [(0, [.bx [.dead, .sl 6 ((p0.wait).map eLock)]]), (42, [.sl 6 ((p0.held ++ ([p1] : List Lock)).map eLock)])]) [8, 9] [0, 42, 44] tyOK (by kernel_rfl) (by kernel_rfl) (by kernel_rfl) ?_
              refine aa_all [10] (by kernel_rfl) rfl ?_
              refine aa_cons ?_ aa_nil
              refine aone_o (ob := [(((p0.held ++ ([p1] : List Lock)).map eLock).length, (p0.held ++ ([p1] : List Lock)).length)]) (listed' := #[true, true, true, true, true, true, true, true, true, true, true]) (st1 := mk 55 [(0, .one (.pl [(0, 0)] 0 0))] [(0, [.bx [.sl 6 ((p0.held ++ ([p1] : List Lock)).map eLock), .sl 6 ((p0.wait).map eLock)]])]) [0] tyOK (by kernel_rfl) ⟨by simp, trivial⟩ (by kernel_rfl) (by kernel_rfl) ?_
              refine aa_done (by kernel_rfl) ?_
              show _ = _; kernel_rfl
            refine aa_cons ?_ aa_nil
            refine aone_append (listed' := #[false, true, true, true, true, true, true, true, false, false, false]) (d := 42) (n := (((p0.held).map eLock).length)) (n' := ((p0.held ++ ([p1] : List Lock)).length)) (bytes := 64) (size := 6) (src := (some ([(0, 0)], 0, 0))) (rows := (p0.held).map eLock) (tx := .one (.so [] 41 0 1)) (new := [[iC p1.tx.c, iC p1.tx.e, iC p1.tx.n, sC p1.range.lo, sC p1.range.hi, bC p1.ex]]) (rows' := (p0.held ++ ([p1] : List Lock)).map eLock) (st1 := mk 55 [(0, .one (.pl [(0, 0)] 0 0)), (42, .one (.so [] 42 0 ((p0.held ++ ([p1] : List Lock)).length)))] [(0, [.bx [.dead, .sl 6 ((p0.wait).map eLock)]]), (42, [.sl 6 ((p0.held ++ ([p1] : List Lock)).map eLock)])]) [0, 42] tyOK (by kernel_rfl) (by kernel_rfl) (by simp) (by simpa using c1) (by kernel_rfl) (by simp [bC, eLock, eRange, eTx, frzC, iC, sC]) (by simp) (by kernel_rfl) (by kernel_rfl) (by kernel_rfl) ?_
            refine aa_take (fuel := 1) (listed' := #[true, true, true, true, true, true, true, true, true, true, false]) (st' := mk 55 [(0, .one (.pl [(0, 0)] 0 0)), (42, .one (.so [] 42 0 ((p0.held ++ ([p1] : List Lock)).length))), (44, .one (.pl [(0, 0)] 0 0))] [(0, [.bx [.dead, .sl 6 ((p0.wait).map eLock)]]), (42, [.sl 6 ((p0.held ++ ([p1] : List Lock)).map eLock)])]) [0, 8, 9] [0, 42, 44] tyOK (by kernel_rfl) (by kernel_rfl) (by kernel_rfl) ?_
            refine aa_all [10] (by kernel_rfl) rfl ?_
            refine aa_cons ?_ aa_nil
            refine aone_o (ob := [(((p0.held ++ ([p1] : List Lock)).map eLock).length, (p0.held ++ ([p1] : List Lock)).length)]) (listed' := #[true, true, true, true, true, true, true, true, true, true, true]) (st1 := mk 55 [(0, .one (.pl [(0, 0)] 0 0))] [(0, [.bx [.sl 6 ((p0.held ++ ([p1] : List Lock)).map eLock), .sl 6 ((p0.wait).map eLock)]])]) [0] tyOK (by kernel_rfl) ⟨by simp, trivial⟩ (by kernel_rfl) (by kernel_rfl) ?_
            refine aa_done (by kernel_rfl) ?_
            show _ = _; kernel_rfl
          refine a_seq ?_
          refine a_run [0, 4] tyOK (st1 := mk 55 [(0, .one (.pl [(0, 0)] 0 0)), (4, iV 0)] [(0, [.bx [.sl 6 ((p0.held ++ ([p1] : List Lock)).map eLock), .sl 6 ((p0.wait).map eLock)]])]) (by kernel_rfl) ?_
          refine a_ret ?_
          obtain rfl := Option.some.inj h
          exact end_g (ob := []) (outs' := [.bx [.sl 6 ((p0.held ++ ([p1] : List Lock)).map eLock), .sl 6 ((p0.wait).map eLock)]]) (res' := iV 0) (row' := []) (by kernel_rfl) trivial (by first | rfl | simp) (by first | rfl | simp) (by first | rfl | simp)
        · replace h := cF h3 h
          refine a_skip ?_
          refine a_seq ?_
          obtain ⟨c2, h⟩ := chk_e h
          refine a_mid (mk 55 [(0, .one (.pl [(0, 0)] 0 0))] [(0, [.bx [.sl 6 ((p0.held).map eLock), .sl 6 ((p0.wait ++ ([p1] : List Lock)).map eLock)]])]) ?_ ?_
          · refine a_drawn (n := 11) [7, 10] (by kernel_rfl) (by kernel_rfl) ?_
            refine aa_take (fuel := 6) (listed' := #[false, true, true, true, true, true, false, false, false, false, false]) (st' := mk 55 [(0, .one (.pl [(0, 0)] 0 0)), (49, .one (.so [(0, 0)] 0 1 (((p0.wait).map eLock).length))), (50, .agg [.c (iC p1.tx.c), .c (iC p1.tx.e), .c (iC p1.tx.n), .c (sC p1.range.lo), .c (sC p1.range.hi), .c (bC p1.ex)])] [(0, [.bx [.sl 6 ((p0.held).map eLock), .sl 6 ((p0.wait).map eLock)]])]) [1, 2, 3, 4, 5] [0, 49, 50] tyOK (by kernel_rfl) (by kernel_rfl) (by kernel_rfl) ?_
            refine aa_all [0, 6] (by kernel_rfl) rfl ?_
            refine aa_cons ?_ ?_
            · refine aone_any (listed' := #[true, true, true, true, true, true, false, false, false, false, false]) (st1 := mk 55 [(0, .one (.pl [(0, 0)] 0 0)), (45, .one (.pl [(0, 0)] 0 0)), (49, .one (.so [(0, 0)] 0 1 (((p0.wait).map eLock).length))), (50, .agg [.c (iC p1.tx.c), .c (iC p1.tx.e), .c (iC p1.tx.n), .c (sC p1.range.lo), .c (sC p1.range.hi), .c (bC p1.ex)])] [(0, [.bx [.sl 6 ((p0.held).map eLock), .sl 6 ((p0.wait).map eLock)]])]) [0, 45, 49, 50] tyOK (by kernel_rfl) (by kernel_rfl) ?_
              refine aa_all [6] (by kernel_rfl) rfl ?_
              refine aa_cons ?_ aa_nil
              refine aone_any (listed' := #[true, true, true, true, true, true, true, false, false, false, false]) (st1 := mk 55 [(0, .one (.pl [(0, 0)] 0 0)), (45, .one (.pl [(0, 0)] 0 0)), (49, .one (.so [(0, 0)] 0 1 (((p0.wait).map eLock).length))), (51, .one (.so [] 51 0 1))] [(0, [.bx [.sl 6 ((p0.held).map eLock), .sl 6 ((p0.wait).map eLock)]]), (51, [.sl 6 ([[iC p1.tx.c, iC p1.tx.e, iC p1.tx.n, sC p1.range.lo, sC p1.range.hi, bC p1.ex]])])]) [0, 45, 49, 51] tyOK (by kernel_rfl) (by kernel_rfl) ?_
              refine aa_all [7] (by kernel_rfl) rfl ?_
              refine aa_cons ?_ aa_nil
              refine aone_append (listed' := #[true, true, true, true, true, true, true, true, false, false, false]) (d := 52) (n := (((p0.wait).map eLock).length)) (n' := ((p0.wait ++ ([p1] : List Lock)).length)) (bytes := 64) (size := 6) (src := (some ([(0, 0)], 0, 1))) (rows := (p0.wait).map eLock) (tx := .one (.so [] 51 0 1)) (new := [[iC p1.tx.c, iC p1.tx.e, iC p1.tx.n, sC p1.range.lo, sC p1.range.hi, bC p1.ex]]) (rows' := (p0.wait ++ ([p1] : List Lock)).map eLock) (st1 := mk 55 [(0, .one (.pl [(0, 0)] 0 0)), (45, .one (.pl [(0, 0)] 0 0)), (52, .one (.so [] 52 0 ((p0.wait ++ ([p1] : List Lock)).length)))] [(0, [.bx [.sl 6 ((p0.held).map eLock), .dead]]), (52, [.sl 6 ((p0.wait ++ ([p1] : List Lock)).map eLock)])]) [0, 45, 52] tyOK (by kernel_rfl) (by kernel_rfl) (by simp) (by simpa using c2) (by kernel_rfl) (by simp [bC, eLock, eRange, eTx, frzC, iC, sC]) (by simp) (by kernel_rfl) (by kernel_rfl) (by kernel_rfl) ?_
              refine aa_take (fuel := 1) (listed' := #[true, true, true, true, true, true, true, true, true, true, false]) (st' := mk 55 [(0, .one (.pl [(0, 0)] 0 0)), (52, .one (.so [] 52 0 ((p0.wait ++ ([p1] : List Lock)).length))), (54, .one (.pl [(0, 0)] 0 1))] [(0, [.bx [.sl 6 ((p0.held).map eLock), .dead]]), (52, [.sl 6 ((p0.wait ++ ([p1] : List Lock)).map eLock)])]) [8, 9] [0, 52, 54] tyOK (by kernel_rfl) (by kernel_rfl) (by kernel_rfl) ?_
              refine aa_all [10] (by kernel_rfl) rfl ?_
              refine aa_cons ?_ aa_nil
              refine aone_o (ob := [(((p0.wait ++ ([p1] : List Lock)).map eLock).length, (p0.wait ++ ([p1] : List Lock)).length)]) (listed' := #[true, true, true, true, true, true, true, true, true, true, true]) (st1 := mk 55 [(0, .one (.pl [(0, 0)] 0 0))] [(0, [.bx [.sl 6 ((p0.held).map eLock), .sl 6 ((p0.wait ++ ([p1] : List Lock)).map eLock)]])]) [0] tyOK (by kernel_rfl) ⟨by simp, trivial⟩ (by kernel_rfl) (by kernel_rfl) ?_
              refine aa_done (by kernel_rfl) ?_
              show _ = _; kernel_rfl
            refine aa_cons ?_ aa_nil
            refine aone_any (listed' := #[false, true, true, true, true, true, true, false, false, false, false]) (st1 := mk 55 [(0, .one (.pl [(0, 0)] 0 0)), (49, .one (.so [(0, 0)] 0 1 (((p0.wait).map eLock).length))), (51, .one (.so [] 51 0 1))] [(0, [.bx [.sl 6 ((p0.held).map eLock), .sl 6 ((p0.wait).map eLock)]]), (51, [.sl 6 ([[iC p1.tx.c, iC p1.tx.e, iC p1.tx.n, sC p1.range.lo, sC p1.range.hi, bC p1.ex]])])]) [0, 49, 51] tyOK (by kernel_rfl) (by kernel_rfl) ?_
            refine aa_all [0, 7] (by kernel_rfl) rfl ?_
            refine aa_cons ?_ ?_
            · refine aone_any (listed' := #[true, true, true, true, true, true, true, false, false, false, false]) (st1 := mk 55 [(0, .one (.pl [(0, 0)] 0 0)), (45, .one (.pl [(0, 0)] 0 0)), (49, .one (.so [(0, 0)] 0 1 (((p0.wait).map eLock).length))), (51, .one (.so [] 51 0 1))] [(0, [.bx [.sl 6 ((p0.held).map eLock), .sl 6 ((p0.wait).map eLock)]]), (51, [.sl 6 ([[iC p1.tx.c, iC p1.tx.e, iC p1.tx.n, sC p1.range.lo, sC p1.range.hi, bC p1.ex]])])]) [0, 45, 49, 51] tyOK (by kernel_rfl) (by kernel_rfl) ?_
              refine aa_all [7] (by kernel_rfl) rfl ?_
              refine aa_cons ?_ aa_nil
              refine aone_append (listed' := #[true, true, true, true, true, true, true, true, false, false, false]) (d := 52) (n := (((p0.wait).map eLock).length)) (n' := ((p0.wait ++ ([p1] : List Lock)).length)) (bytes := 64) (size := 6) (src := (some ([(0, 0)], 0, 1))) (rows := (p0.wait).map eLock) (tx := .one (.so [] 51 0 1)) (new := [[iC p1.tx.c, iC p1.tx.e, iC p1.tx.n, sC p1.range.lo, sC p1.range.hi, bC p1.ex]]) (rows' := (p0.wait ++ ([p1] : List Lock)).map eLock) (st1 := mk 55 [(0, .one (.pl [(0, 0)] 0 0)), (45, .one (.pl [(0, 0)] 0 0)), (52, .one (.so [] 52 0 ((p0.wait ++ ([p1] : List Lock)).length)))] [(0, [.bx [.sl 6 ((p0.held).map eLock), .dead]]), (52, [.sl 6 ((p0.wait ++ ([p1] : List Lock)).map eLock)])]) [0, 45, 52] tyOK (by kernel_rfl) (by kernel_rfl) (by simp) (by simpa using c2) (by kernel_rfl) (by simp [bC, eLock, eRange, eTx, frzC, iC, sC]) (by simp) (by kernel_rfl) (by kernel_rfl) (by kernel_rfl) ?_
              refine aa_take (fuel := 1) (listed' := #[true, true, true, true, true, true, true, true, true, true, false]) (st' := mk 55 [(0, .one (.pl [(0, 0)] 0 0)), (52, .one (.so [] 52 0 ((p0.wait ++ ([p1] : List Lock)).length))), (54, .one (.pl [(0, 0)] 0 1))] [(0, [.bx [.sl 6 ((p0.held).map eLock), .dead]]), (52, [.sl 6 ((p0.wait ++ ([p1] : List Lock)).map eLock)])]) [8, 9] [0, 52, 54] tyOK (by kernel_rfl) (by kernel_rfl) (by kernel_rfl) ?_
              refine aa_all [10] (by kernel_rfl) rfl ?_
              refine aa_cons ?_ aa_nil
              refine aone_o (ob := [(((p0.wait ++ ([p1] : List Lock)).map eLock).length, (p0.wait ++ ([p1] : List Lock)).length)]) (listed' := #[true, true, true, true, true, true, true, true, true, true, true]) (st1 := mk 55 [(0, .one (.pl [(0, 0)] 0 0))] [(0, [.bx [.sl 6 ((p0.held).map eLock), .sl 6 ((p0.wait ++ ([p1] : List Lock)).map eLock)]])]) [0] tyOK (by kernel_rfl) ⟨by simp, trivial⟩ (by kernel_rfl) (by kernel_rfl) ?_
              refine aa_done (by kernel_rfl) ?_
              show _ = _; kernel_rfl
            refine aa_cons ?_ aa_nil
            refine aone_append (listed' := #[false, true, true, true, true, true, true, true, false, false, false]) (d := 52) (n := (((p0.wait).map eLock).length)) (n' := ((p0.wait ++ ([p1] : List Lock)).length)) (bytes := 64) (size := 6) (src := (some ([(0, 0)], 0, 1))) (rows := (p0.wait).map eLock) (tx := .one (.so [] 51 0 1)) (new := [[iC p1.tx.c, iC p1.tx.e, iC p1.tx.n, sC p1.range.lo, sC p1.range.hi, bC p1.ex]]) (rows' := (p0.wait ++ ([p1] : List Lock)).map eLock) (st1 := mk 55 [(0, .one (.pl [(0, 0)] 0 0)), (52, .one (.so [] 52 0 ((p0.wait ++ ([p1] : List Lock)).length)))] [(0, [.bx [.sl 6 ((p0.held).map eLock), .dead]]), (52, [.sl 6 ((p0.wait ++ ([p1] : List Lock)).map eLock)])]) [0, 52] tyOK (by kernel_rfl) (by kernel_rfl) (by simp) (by simpa using c2) (by kernel_rfl) (by simp [bC, eLock, eRange, eTx, frzC, iC, sC]) (by simp) (by kernel_rfl) (by kernel_rfl) (by kernel_rfl) ?_
            refine aa_take (fuel := 1) (listed' := #[true, true, true, true, true, true, true, true, true, true, false]) (st' := mk 55 [(0, .one (.pl [(0, 0)] 0 0)), (52, .one (.so [] 52 0 ((p0.wait ++ ([p1] : List Lock)).length))), (54, .one (.pl [(0, 0)] 0 1))] [(0, [.bx [.sl 6 ((p0.held).map eLock), .dead]]), (52, [.sl 6 ((p0.wait ++ ([p1] : List Lock)).map eLock)])]) [0, 8, 9] [0, 52, 54] tyOK (by kernel_rfl) (by kernel_rfl) (by kernel_rfl) ?_
            refine aa_all [10] (by kernel_rfl) rfl ?_
            refine aa_cons ?_ aa_nil
            refine aone_o (ob := [(((p0.wait ++ ([p1] : List Lock)).map eLock).length, (p0.wait ++ ([p1] : List Lock)).length)]) (listed' := #[true, true, true, true, true, true, true, true, true, true, true]) (st1 := mk 55 [(0, .one (.pl [(0, 0)] 0 0))] [(0, [.bx [.sl 6 ((p0.held).map eLock), .sl 6 ((p0.wait ++ ([p1] : List Lock)).map eLock)]])]) [0] tyOK (by kernel_rfl) ⟨by simp, trivial⟩ (by kernel_rfl) (by kernel_rfl) ?_
            refine aa_done (by kernel_rfl) ?_
            show _ = _; kernel_rfl
          refine a_seq ?_
          refine a_run [0, 4] tyOK (st1 := mk 55 [(0, .one (.pl [(0, 0)] 0 0)), (4, iV 3)] [(0, [.bx [.sl 6 ((p0.held).map eLock), .sl 6 ((p0.wait ++ ([p1] : List Lock)).map eLock)]])]) (by kernel_rfl) ?_
          refine a_ret ?_
          obtain rfl := Option.some.inj h
          exact end_g (ob := []) (outs' := [.bx [.sl 6 ((p0.held).map eLock), .sl 6 ((p0.wait ++ ([p1] : List Lock)).map eLock)]]) (res' := iV 3) (row' := []) (by kernel_rfl) trivial (by first | rfl | simp) (by first | rfl | simp) (by first | rfl | simp)

noncomputable def i_LockAsk (p0 : Locks) (p1 : Lock) : Option (Locks × Int) :=
 bnd (bnd (i_LocksOk p0) fun r1 =>
 bif (!r1) then
 (some true)
 else
 (some (!(i_lockOk p1)))) fun j1 =>
 bif j1 then
 (some (((⟨[], []⟩ : Locks), 1)))
 else
 (bnd (i_copyLocks p0) fun r2 =>
 bnd (i_Locks_ask r2 p1) fun r3 =>
 bif (bif ((r3.2 == 1)) then true else ((r3.2 == 2))) then
 (some (((⟨[], []⟩ : Locks), r3.2)))
 else
 (some ((r3.1, r3.2))))
set_option maxHeartbeats 4000000 in
/-- impl.LockAsk -/
theorem k_i_LockAsk (p0 : Locks) (p1 : Lock) (v : Locks × Int) (h : i_LockAsk p0 p1 = some v) : CallOK Try.prog 32 [.agg [.c (.sl 6 ((p0.held).map eLock)), .c (.sl 6 ((p0.wait).map eLock))], .agg [.c (iC p1.tx.c), .c (iC p1.tx.e), .c (iC p1.tx.n), .c (sC p1.range.lo), .c (sC p1.range.hi), .c (bC p1.ex)]] (.tup [.agg [.so [] 0 0 ((v.1.held).length), .so [] 0 1 ((v.1.wait).length)], .one (.c (iC v.2))]) [.sl 6 ((v.1.held).map eLock), .sl 6 ((v.1.wait).map eLock)] :=
  callOK tyOK Try.func32 rfl fun w S hS => by
    unfold i_LockAsk at h
    refine a_seq ?_
    refine a_run [2, 3, 4] tyOK (st1 := mk 31 [(2, .one (.pl [(2, 0)] 0 0)), (3, .one (.pl [(3, 0)] 0 0)), (4, .one (.pl [(4, 0)] 0 0))] [(2, [.bx [.fz (.sl 6 ((p0.held).map eLock)), .fz (.sl 6 ((p0.wait).map eLock))]]), (3, [.bx [iC p1.tx.c, iC p1.tx.e, iC p1.tx.n, sC p1.range.lo, sC p1.range.hi, bC p1.ex]]), (4, [.bx [.sl 6 ([]), .sl 6 ([])]])]) (by kernel_rfl) ?_
    refine a_seq ?_
    refine a_seq ?_
    obtain ⟨y1, h, ky1⟩ := bndJ_e h
    refine a_joinT (ι := Bool) (fun j => mk 31 [(2, .one (.pl [(2, 0)] 0 0)), (3, .one (.pl [(3, 0)] 0 0)), (4, .one (.pl [(4, 0)] 0 0)), (15, bV j)] [(2, [.bx [.fz (.sl 6 ((p0.held).map eLock)), .fz (.sl 6 ((p0.wait).map eLock))]]), (3, [.bx [iC p1.tx.c, iC p1.tx.e, iC p1.tx.n, sC p1.range.lo, sC p1.range.hi, bC p1.ex]]), (4, [.bx [.sl 6 ([]), .sl 6 ([])]])]) (fun j => y1 = j) ?_ ?_
    · refine a_ops [0, 1, 2, 3, 4, 5, 6, 7] (by kernel_rfl) ?_
      refine ao_some [0] [1, 2, 3, 4, 5, 6, 7] [2, 3, 4, 8] tyOK (st1 := mk 31 [(2, .one (.pl [(2, 0)] 0 0)), (3, .one (.pl [(3, 0)] 0 0)), (4, .one (.pl [(4, 0)] 0 0)), (8, .agg [.c (.sl 6 ((p0.held).map eLock)), .c (.sl 6 ((p0.wait).map eLock))])] [(2, [.bx [.fz (.sl 6 ((p0.held).map eLock)), .fz (.sl 6 ((p0.wait).map eLock))]]), (3, [.bx [iC p1.tx.c, iC p1.tx.e, iC p1.tx.n, sC p1.range.lo, sC p1.range.hi, bC p1.ex]]), (4, [.bx [.sl 6 ([]), .sl 6 ([])]])]) (by kernel_rfl) ?_
      obtain ⟨r1, er1, h⟩ := bnd_e h
      refine ao_enter (f := 67) (d := 9) (A := [.agg [.c (.sl 6 ((p0.held).map eLock)), .c (.sl 6 ((p0.wait).map eLock))]]) (st1 := mk 31 [(2, .one (.pl [(2, 0)] 0 0)), (3, .one (.pl [(3, 0)] 0 0)), (4, .one (.pl [(4, 0)] 0 0)), (9, bV r1)] [(2, [.bx [.fz (.sl 6 ((p0.held).map eLock)), .fz (.sl 6 ((p0.wait).map eLock))]]), (3, [.bx [iC p1.tx.c, iC p1.tx.e, iC p1.tx.n, sC p1.range.lo, sC p1.range.hi, bC p1.ex]]), (4, [.bx [.sl 6 ([]), .sl 6 ([])]])]) [2, 3, 4, 9] (k_i_LocksOk p0 r1 er1) Try.call67 (by kernel_rfl) (by kernel_rfl) (by kernel_rfl) ?_
      refine ao_some [2, 3] [4, 5, 6, 7] [2, 3, 4, 11] tyOK (st1 := mk 31 [(2, .one (.pl [(2, 0)] 0 0)), (3, .one (.pl [(3, 0)] 0 0)), (4, .one (.pl [(4, 0)] 0 0)), (11, bV (!r1))] [(2, [.bx [.fz (.sl 6 ((p0.held).map eLock)), .fz (.sl 6 ((p0.wait).map eLock))]]), (3, [.bx [iC p1.tx.c, iC p1.tx.e, iC p1.tx.n, sC p1.range.lo, sC p1.range.hi, bC p1.ex]]), (4, [.bx [.sl 6 ([]), .sl 6 ([])]])]) (by kernel_rfl) ?_
      rcases Bool.eq_false_or_eq_true (!r1) with h1 | h1
      · replace h := cT h1 h
        refine ao_says (k := 11) (t := bV (!r1)) (t' := bV true) (st1 := mk 31 [(2, .one (.pl [(2, 0)] 0 0)), (3, .one (.pl [(3, 0)] 0 0)), (4, .one (.pl [(4, 0)] 0 0)), (11, bV true)] [(2, [.bx [.fz (.sl 6 ((p0.held).map eLock)), .fz (.sl 6 ((p0.wait).map eLock))]]), (3, [.bx [iC p1.tx.c, iC p1.tx.e, iC p1.tx.n, sC p1.range.lo, sC p1.range.hi, bC p1.ex]]), (4, [.bx [.sl 6 ([]), .sl 6 ([])]])]) (by kernel_rfl) (by rw [h1]) (by kernel_rfl) ?_
        refine ao_some [4, 5, 6, 7] [] [2, 3, 4, 15] tyOK (st1 := mk 31 [(2, .one (.pl [(2, 0)] 0 0)), (3, .one (.pl [(3, 0)] 0 0)), (4, .one (.pl [(4, 0)] 0 0)), (15, bV true)] [(2, [.bx [.fz (.sl 6 ((p0.held).map eLock)), .fz (.sl 6 ((p0.wait).map eLock))]]), (3, [.bx [iC p1.tx.c, iC p1.tx.e, iC p1.tx.n, sC p1.range.lo, sC p1.range.hi, bC p1.ex]]), (4, [.bx [.sl 6 ([]), .sl 6 ([])]])]) (by kernel_rfl) ?_
        refine ao_nil ?_
        obtain rfl := Option.some.inj h
        show ∃ _, _ ∧ Imp _ _ _
        refine ⟨_, rfl, ?_⟩
        exact imp_keepTo [2, 3, 4, 15] (by kernel_rfl) (imp_done rfl)
      · replace h := cF h1 h
        refine ao_says (k := 11) (t := bV (!r1)) (t' := bV false) (st1 := mk 31 [(2, .one (.pl [(2, 0)] 0 0)), (3, .one (.pl [(3, 0)] 0 0)), (4, .one (.pl [(4, 0)] 0 0)), (11, bV false)] [(2, [.bx [.fz (.sl 6 ((p0.held).map eLock)), .fz (.sl 6 ((p0.wait).map eLock))]]), (3, [.bx [iC p1.tx.c, iC p1.tx.e, iC p1.tx.n, sC p1.range.lo, sC p1.range.hi, bC p1.ex]]), (4, [.bx [.sl 6 ([]), .sl 6 ([])]])]) (by kernel_rfl) (by rw [h1]) (by kernel_rfl) ?_
        refine ao_some [4] [5, 6, 7] [2, 3, 4, 11, 12] tyOK (st1 := mk 31 [(2, .one (.pl [(2, 0)] 0 0)), (3, .one (.pl [(3, 0)] 0 0)), (4, .one (.pl [(4, 0)] 0 0)), (11, bV false), (12, .agg [.c (iC p1.tx.c), .c (iC p1.tx.e), .c (iC p1.tx.n), .c (sC p1.range.lo), .c (sC p1.range.hi), .c (bC p1.ex)])] [(2, [.bx [.fz (.sl 6 ((p0.held).map eLock)), .fz (.sl 6 ((p0.wait).map eLock))]]), (3, [.bx [iC p1.tx.c, iC p1.tx.e, iC p1.tx.n, sC p1.range.lo, sC p1.range.hi, bC p1.ex]]), (4, [.bx [.sl 6 ([]), .sl 6 ([])]])]) (by kernel_rfl) ?_
        refine ao_enter (f := 68) (d := 13) (A := [.agg [.c (iC p1.tx.c), .c (iC p1.tx.e), .c (iC p1.tx.n), .c (sC p1.range.lo), .c (sC p1.range.hi), .c (bC p1.ex)]]) (st1 := mk 31 [(2, .one (.pl [(2, 0)] 0 0)), (3, .one (.pl [(3, 0)] 0 0)), (4, .one (.pl [(4, 0)] 0 0)), (11, bV false), (13, bV (i_lockOk p1))] [(2, [.bx [.fz (.sl 6 ((p0.held).map eLock)), .fz (.sl 6 ((p0.wait).map eLock))]]), (3, [.bx [iC p1.tx.c, iC p1.tx.e, iC p1.tx.n, sC p1.range.lo, sC p1.range.hi, bC p1.ex]]), (4, [.bx [.sl 6 ([]), .sl 6 ([])]])]) [2, 3, 4, 11, 13] (k_i_lockOk p1 _ rfl) Try.call68 (by kernel_rfl) (by kernel_rfl) (by kernel_rfl) ?_
        refine ao_some [6, 7] [] [2, 3, 4, 15] tyOK (st1 := mk 31 [(2, .one (.pl [(2, 0)] 0 0)), (3, .one (.pl [(3, 0)] 0 0)), (4, .one (.pl [(4, 0)] 0 0)), (15, bV (!(i_lockOk p1)))] [(2, [.bx [.fz (.sl 6 ((p0.held).map eLock)), .fz (.sl 6 ((p0.wait).map eLock))]]), (3, [.bx [iC p1.tx.c, iC p1.tx.e, iC p1.tx.n, sC p1.range.lo, sC p1.range.hi, bC p1.ex]]), (4, [.bx [.sl 6 ([]), .sl 6 ([])]])]) (by kernel_rfl) ?_
        refine ao_nil ?_
        obtain rfl := Option.some.inj h
        show ∃ _, _ ∧ Imp _ _ _
        refine ⟨_, rfl, ?_⟩
        exact imp_keepTo [2, 3, 4, 15] (by kernel_rfl) (imp_done rfl)
    intro j1 hj1
    replace h := ky1 _ hj1
    refine a_cond (b := j1) (by kernel_rfl) (fun h2 => ?_) (fun h2 => ?_)
    · replace h := cT h2 h
      refine a_seq ?_
      refine a_run [4, 5] tyOK (st1 := mk 31 [(4, .one (.pl [(4, 0)] 0 0)), (5, iV 1)] [(4, [.bx [.sl 6 ([]), .sl 6 ([])]])]) (by kernel_rfl) ?_
      refine a_ret ?_
      obtain rfl := Option.some.inj h
      exact end_own (ob := [(0, 0), (0, 0)]) (res' := .tup [.agg [.so [] 0 0 0, .so [] 0 1 0], .one (.c (iC 1))]) (row' := [.sl 6 ([]), .sl 6 ([])]) (by kernel_rfl) ⟨by simp, by simp, trivial⟩ (by first | rfl | simp) (by first | rfl | simp)
    · replace h := cF h2 h
      refine a_skip ?_
      refine a_seq ?_
      refine a_ops [0, 1, 2, 3] (by kernel_rfl) ?_
      refine ao_some [0] [1, 2, 3] [3, 4, 17] tyOK (st1 := mk 31 [(3, .one (.pl [(3, 0)] 0 0)), (4, .one (.pl [(4, 0)] 0 0)), (17, .agg [.c (.sl 6 ((p0.held).map eLock)), .c (.sl 6 ((p0.wait).map eLock))])] [(3, [.bx [iC p1.tx.c, iC p1.tx.e, iC p1.tx.n, sC p1.range.lo, sC p1.range.hi, bC p1.ex]]), (4, [.bx [.sl 6 ([]), .sl 6 ([])]])]) (by kernel_rfl) ?_
      obtain ⟨r2, er2, h⟩ := bnd_e h
      refine ao_enter (f := 69) (d := 18) (A := [.agg [.c (.sl 6 ((p0.held).map eLock)), .c (.sl 6 ((p0.wait).map eLock))]]) (st1 := mk 31 [(3, .one (.pl [(3, 0)] 0 0)), (4, .one (.pl [(4, 0)] 0 0)), (18, .agg [.so [] 18 0 ((r2.held).length), .so [] 18 1 ((r2.wait).length)])] [(3, [.bx [iC p1.tx.c, iC p1.tx.e, iC p1.tx.n, sC p1.range.lo, sC p1.range.hi, bC p1.ex]]), (4, [.bx [.sl 6 ([]), .sl 6 ([])]]), (18, [.sl 6 ((r2.held).map eLock), .sl 6 ((r2.wait).map eLock)])]) [3, 4, 18] (k_i_copyLocks p0 r2 er2) Try.call69 (by kernel_rfl) (by kernel_rfl) (by kernel_rfl) ?_
      refine ao_some [2] [3] [3, 4, 6, 18] tyOK (st1 := mk 31 [(3, .one (.pl [(3, 0)] 0 0)), (4, .one (.pl [(4, 0)] 0 0)), (6, .one (.pl [(6, 0)] 0 0)), (18, .agg [.so [] 18 0 ((r2.held).length), .so [] 18 1 ((r2.wait).length)])] [(3, [.bx [iC p1.tx.c, iC p1.tx.e, iC p1.tx.n, sC p1.range.lo, sC p1.range.hi, bC p1.ex]]), (4, [.bx [.sl 6 ([]), .sl 6 ([])]]), (6, [.bx [.sl 6 ([]), .sl 6 ([])]]), (18, [.sl 6 ((r2.held).map eLock), .sl 6 ((r2.wait).map eLock)])]) (by kernel_rfl) ?_
      refine ao_o (ob := [(((r2.held).map eLock).length, (r2.held).length), (((r2.wait).map eLock).length, (r2.wait).length)]) (st1 := mk 31 [(3, .one (.pl [(3, 0)] 0 0)), (4, .one (.pl [(4, 0)] 0 0)), (6, .one (.pl [(6, 0)] 0 0))] [(3, [.bx [iC p1.tx.c, iC p1.tx.e, iC p1.tx.n, sC p1.range.lo, sC p1.range.hi, bC p1.ex]]), (4, [.bx [.sl 6 ([]), .sl 6 ([])]]), (6, [.bx [.sl 6 ((r2.held).map eLock), .sl 6 ((r2.wait).map eLock)]])]) [3, 4, 6] tyOK (by kernel_rfl) ⟨by simp, by simp, trivial⟩ ?_
      refine ao_nil ?_
      refine a_seq ?_
      refine a_ops [0, 1, 2] (by kernel_rfl) ?_
      refine ao_some [0] [1, 2] [4, 6, 19] tyOK (st1 := mk 31 [(4, .one (.pl [(4, 0)] 0 0)), (6, .one (.pl [(6, 0)] 0 0)), (19, .agg [.c (iC p1.tx.c), .c (iC p1.tx.e), .c (iC p1.tx.n), .c (sC p1.range.lo), .c (sC p1.range.hi), .c (bC p1.ex)])] [(4, [.bx [.sl 6 ([]), .sl 6 ([])]]), (6, [.bx [.sl 6 ((r2.held).map eLock), .sl 6 ((r2.wait).map eLock)]])]) (by kernel_rfl) ?_
      obtain ⟨r3, er3, h⟩ := bnd_e h
      refine ao_g2 (g := 70) (d := 20) (A := [.one (.pl [(6, 0)] 0 0), .agg [.c (iC p1.tx.c), .c (iC p1.tx.e), .c (iC p1.tx.n), .c (sC p1.range.lo), .c (sC p1.range.hi), .c (bC p1.ex)]]) (A' := [.one (.pl [(0, 0)] 0 0), .agg [.c (iC p1.tx.c), .c (iC p1.tx.e), .c (iC p1.tx.n), .c (sC p1.range.lo), .c (sC p1.range.hi), .c (bC p1.ex)]]) (cs := [.bx [.sl 6 ((r2.held).map eLock), .sl 6 ((r2.wait).map eLock)]]) (outs := [.bx [.sl 6 ((r3.1.held).map eLock), .sl 6 ((r3.1.wait).map eLock)]]) (ps := [[(6, 0)]]) (st1 := mk 31 [(4, .one (.pl [(4, 0)] 0 0)), (6, .one (.pl [(6, 0)] 0 0)), (20, iV r3.2)] [(4, [.bx [.sl 6 ([]), .sl 6 ([])]]), (6, [.bx [.sl 6 ((r3.1.held).map eLock), .sl 6 ((r3.1.wait).map eLock)]])]) [4, 6, 20] (k_i_Locks_ask r2 p1 r3 er3) Try.call70 (by kernel_rfl) (.cons (.one (.pl 0 rfl rfl)) (.cons (.agg (.cons (.same rfl) (.cons (.same rfl) (.cons (.same rfl) (.cons (.same rfl) (.cons (.same rfl) (.cons (.same rfl) .nil))))))) .nil)) (handedN_of (szs := [0]) (by kernel_rfl)) (by kernel_rfl) (.bx .nil) (wholeF0 _ _) (by kernel_rfl) (by kernel_rfl) ?_
      refine ao_some [2] [] [4, 6, 7] tyOK (st1 := mk 31 [(4, .one (.pl [(4, 0)] 0 0)), (6, .one (.pl [(6, 0)] 0 0)), (7, iV r3.2)] [(4, [.bx [.sl 6 ([]), .sl 6 ([])]]), (6, [.bx [.sl 6 ((r3.1.held).map eLock), .sl 6 ((r3.1.wait).map eLock)]])]) (by kernel_rfl) ?_
      refine ao_nil ?_
      refine a_seq ?_
      refine a_seq ?_
      refine a_mid (mk 31 [(4, .one (.pl [(4, 0)] 0 0)), (6, .one (.pl [(6, 0)] 0 0)), (7, iV r3.2), (26, bV (bif ((r3.2 == 1)) then true else ((r3.2 == 2))))] [(4, [.bx [.sl 6 ([]), .sl 6 ([])]]), (6, [.bx [.sl 6 ((r3.1.held).map eLock), .sl 6 ((r3.1.wait).map eLock)]])]) ?_ ?_
      · refine a_ops [0, 1, 2, 3, 4, 5] (by kernel_rfl) ?_
        refine ao_some [0, 1, 2] [3, 4, 5] [4, 6, 7, 23] tyOK (st1 := mk 31 [(4, .one (.pl [(4, 0)] 0 0)), (6, .one (.pl [(6, 0)] 0 0)), (7, iV r3.2), (23, bV ((r3.2 == 1)))] [(4, [.bx [.sl 6 ([]), .sl 6 ([])]]), (6, [.bx [.sl 6 ((r3.1.held).map eLock), .sl 6 ((r3.1.wait).map eLock)]])]) (by kernel_rfl) ?_
        rcases Bool.eq_false_or_eq_true ((r3.2 == 1)) with h3 | h3
        · refine ao_says (k := 23) (t := bV ((r3.2 == 1))) (t' := bV true) (st1 := mk 31 [(4, .one (.pl [(4, 0)] 0 0)), (6, .one (.pl [(6, 0)] 0 0)), (7, iV r3.2), (23, bV true)] [(4, [.bx [.sl 6 ([]), .sl 6 ([])]]), (6, [.bx [.sl 6 ((r3.1.held).map eLock), .sl 6 ((r3.1.wait).map eLock)]])]) (by kernel_rfl) (by rw [h3]) (by kernel_rfl) ?_
          refine ao_some [3, 4, 5] [] [4, 6, 7, 26] tyOK (st1 := mk 31 [(4, .one (.pl [(4, 0)] 0 0)), (6, .one (.pl [(6, 0)] 0 0)), (7, iV r3.2), (26, bV true)] [(4, [.bx [.sl 6 ([]), .sl 6 ([])]]), (6, [.bx [.sl 6 ((r3.1.held).map eLock), .sl 6 ((r3.1.wait).map eLock)]])]) (by kernel_rfl) ?_
          refine ao_nil ?_
          show mk 31 [(4, .one (.pl [(4, 0)] 0 0)), (6, .one (.pl [(6, 0)] 0 0)), (7, iV r3.2), (26, bV true)] [(4, [.bx [.sl 6 ([]), .sl 6 ([])]]), (6, [.bx [.sl 6 ((r3.1.held).map eLock), .sl 6 ((r3.1.wait).map eLock)]])] = mk 31 [(4, .one (.pl [(4, 0)] 0 0)), (6, .one (.pl [(6, 0)] 0 0)), (7, iV r3.2), (26, bV (bif ((r3.2 == 1)) then true else ((r3.2 == 2))))] [(4, [.bx [.sl 6 ([]), .sl 6 ([])]]), (6, [.bx [.sl 6 ((r3.1.held).map eLock), .sl 6 ((r3.1.wait).map eLock)]])]
          first | rfl | (simp only [h3, cond_true, cond_false]) | (simp only [h3, cond_true, cond_false]; rfl)
        · refine ao_says (k := 23) (t := bV ((r3.2 == 1))) (t' := bV false) (st1 := mk 31 [(4, .one (.pl [(4, 0)] 0 0)), (6, .one (.pl [(6, 0)] 0 0)), (7, iV r3.2), (23, bV false)] [(4, [.bx [.sl 6 ([]), .sl 6 ([])]]), (6, [.bx [.sl 6 ((r3.1.held).map eLock), .sl 6 ((r3.1.wait).map eLock)]])]) (by kernel_rfl) (by rw [h3]) (by kernel_rfl) ?_
          refine ao_some [3, 4, 5] [] [4, 6, 7, 26] tyOK (st1 := mk 31 [(4, .one (.pl [(4, 0)] 0 0)), (6, .one (.pl [(6, 0)] 0 0)), (7, iV r3.2), (26, bV ((r3.2 == 2)))] [(4, [.bx [.sl 6 ([]), .sl 6 ([])]]), (6, [.bx [.sl 6 ((r3.1.held).map eLock), .sl 6 ((r3.1.wait).map eLock)]])]) (by kernel_rfl) ?_
          refine ao_nil ?_
          show mk 31 [(4, .one (.pl [(4, 0)] 0 0)), (6, .one (.pl [(6, 0)] 0 0)), (7, iV r3.2), (26, bV ((r3.2 == 2)))] [(4, [.bx [.sl 6 ([]), .sl 6 ([])]]), (6, [.bx [.sl 6 ((r3.1.held).map eLock), .sl 6 ((r3.1.wait).map eLock)]])] = mk 31 [(4, .one (.pl [(4, 0)] 0 0)), (6, .one (.pl [(6, 0)] 0 0)), (7, iV r3.2), (26, bV (bif ((r3.2 == 1)) then true else ((r3.2 == 2))))] [(4, [.bx [.sl 6 ([]), .sl 6 ([])]]), (6, [.bx [.sl 6 ((r3.1.held).map eLock), .sl 6 ((r3.1.wait).map eLock)]])]
          first | rfl | (simp only [h3, cond_true, cond_false]) | (simp only [h3, cond_true, cond_false]; rfl)
      refine a_cond (b := bif ((r3.2 == 1)) then true else ((r3.2 == 2))) (by kernel_rfl) (fun h3 => ?_) (fun h3 => ?_)
      · replace h := cT h3 h
        refine a_seq ?_
        refine a_run [4, 5] tyOK (st1 := mk 31 [(4, .one (.pl [(4, 0)] 0 0)), (5, iV r3.2)] [(4, [.bx [.sl 6 ([]), .sl 6 ([])]])]) (by kernel_rfl) ?_
        refine a_ret ?_
        obtain rfl := Option.some.inj h
        exact end_own (ob := [(0, 0), (0, 0)]) (res' := .tup [.agg [.so [] 0 0 0, .so [] 0 1 0], .one (.c (iC r3.2))]) (row' := [.sl 6 ([]), .sl 6 ([])]) (by kernel_rfl) ⟨by simp, by simp, trivial⟩ (by first | rfl | simp) (by first | rfl | simp)
      · replace h := cF h3 h
        refine a_skip ?_
        refine a_seq ?_
        refine a_ops [0, 1, 2, 3] (by kernel_rfl) ?_
        refine ao_some [0, 1] [2, 3] [4, 29, 30] tyOK (st1 := mk 31 [(4, .one (.pl [(4, 0)] 0 0)), (29, .agg [.so [(6, 0)] 0 0 (((r3.1.held).map eLock).length), .so [(6, 0)] 0 1 (((r3.1.wait).map eLock).length)]), (30, iV r3.2)] [(4, [.bx [.sl 6 ([]), .sl 6 ([])]]), (6, [.bx [.sl 6 ((r3.1.held).map eLock), .sl 6 ((r3.1.wait).map eLock)]])]) (by kernel_rfl) ?_
        refine ao_o (ob := [(((r3.1.held).map eLock).length, ((r3.1.held).map eLock).length), (((r3.1.wait).map eLock).length, ((r3.1.wait).map eLock).length)]) (st1 := mk 31 [(4, .one (.pl [(4, 0)] 0 0)), (30, iV r3.2)] [(4, [.bx [.sl 6 ((r3.1.held).map eLock), .sl 6 ((r3.1.wait).map eLock)]])]) [4, 30] tyOK (by kernel_rfl) ⟨by simp, by simp, trivial⟩ ?_
        refine ao_some [3] [] [4, 5] tyOK (st1 := mk 31 [(4, .one (.pl [(4, 0)] 0 0)), (5, iV r3.2)] [(4, [.bx [.sl 6 ((r3.1.held).map eLock), .sl 6 ((r3.1.wait).map eLock)]])]) (by kernel_rfl) ?_
        refine ao_nil ?_
        refine a_ret ?_
        obtain rfl := Option.some.inj h
        exact end_own (ob := [(((r3.1.held).map eLock).length, ((r3.1.held).map eLock).length), (((r3.1.wait).map eLock).length, ((r3.1.wait).map eLock).length)]) (res' := .tup [.agg [.so [] 0 0 (((r3.1.held).map eLock).length), .so [] 0 1 (((r3.1.wait).map eLock).length)], .one (.c (iC r3.2))]) (row' := [.sl 6 ((r3.1.held).map eLock), .sl 6 ((r3.1.wait).map eLock)]) (by kernel_rfl) ⟨by simp, by simp, trivial⟩ (by first | rfl | simp) (by first | rfl | simp)

end Go.Proofs.Ytijmnochaamllaa
namespace Go.Proofs.Ytijmnochaamllaa
open Go.Mv Go.RowKit

theorem bytesLess_total : ∀ (x y : List UInt8), Op.bytesLess x y = !(Op.bytesLess y x || y == x)
  | [], [] => rfl
  | [], _ :: _ => by simp [Op.bytesLess]
  | _ :: _, [] => by simp [Op.bytesLess]
  | a :: x, b :: y => by
    have ih := bytesLess_total x y
    simp only [Op.bytesLess, List.cons_beq_cons]
    rw [ih]
    by_cases h : a = b
    · subst h
      simp
    · have h1 : (a == b) = false := by simp [h]
      have h2 : (b == a) = false := beq_eq_false_iff_ne.2 (Ne.symm h)
      rw [h1, h2]
      by_cases h3 : a < b
      · have h4 : ¬ b < a := fun h4 => absurd (UInt8.lt_trans h3 h4) (UInt8.lt_irrefl _)
        simp [h3, h4]
      · have h4 : b < a := by
          rcases UInt8.lt_or_lt_of_ne h with h5 | h5
          · exact absurd h5 h3
          · exact h5
        simp [h3, h4]
theorem rangeOk_eq (r : Range) : i_RangeOk r = s_RangeOk r := by
  unfold i_RangeOk s_RangeOk
  rw [bytesLess_total r.lo.toList r.hi.toList]
  by_cases h1 : (r.lo.size : Int) ≤ 17
  · have h2 : ¬ (r.lo.size : Int) > 17 := by omega
    by_cases h3 : (r.hi.size : Int) ≤ 17
    · have h4 : ¬ (r.hi.size : Int) > 17 := by omega
      simp [h1, h2, h3, h4]
    · have h4 : (r.hi.size : Int) > 17 := by omega
      simp [h1, h2, h3, h4]
  · have h2 : (r.lo.size : Int) > 17 := by omega
    simp [h1, h2]
theorem txOk_eq (x : Tx) : i_TxOk x = s_TxOk x := by
  unfold i_TxOk s_TxOk i_within
  cases decide (x.c ≥ 0) <;> cases decide (x.c ≤ 7) <;> cases decide (x.e ≥ 1) <;> cases decide (x.e ≤ 999) <;> rfl
theorem lockOk_eq (x : Lock) : i_lockOk x = s_l07LockOk x := by unfold i_lockOk s_l07LockOk; rw [txOk_eq, rangeOk_eq]
theorem rangeBoth_eq (p q : Range) : i_RangeBoth p q = s_RangeBoth p q := by
  unfold i_RangeBoth s_RangeBoth maxS
  simp only [rangeOk_eq]
  rw [bytesLess_total p.lo.toList q.lo.toList]
  cases (bif !s_RangeOk p then true else !s_RangeOk q) with
  | true => rfl
  | false =>
    simp only [cond_false]
    cases (!(Op.bytesLess q.lo.toList p.lo.toList || q.lo.toList == p.lo.toList)) <;> rfl
theorem rangeBoth_some (p q : Range) : ∃ r, s_RangeBoth p q = some r := by
  unfold s_RangeBoth
  cases (bif !s_RangeOk p then true else !s_RangeOk q) with
  | true => exact ⟨_, rfl⟩
  | false =>
    simp only [cond_false]
    cases (!(Op.bytesLess q.lo.toList p.lo.toList || q.lo.toList == p.lo.toList)) <;> simp only [cond_true, cond_false, bnd_some] <;>
    cases (bif p.hi.toList == (⟨#[]⟩ : ByteArray).toList then true else bif !(q.hi.toList == (⟨#[]⟩ : ByteArray).toList) then Op.bytesLess q.hi.toList p.hi.toList else false) <;> simp only [cond_true, cond_false, bnd_some] <;>
    exact ⟨_, Bool.apply_cond some .. |>.symm⟩
noncomputable def sameTx (a b : Tx) : Bool := (a.c == b.c) && ((a.e == b.e) && ((a.n == b.n) && true))
noncomputable def cl (a b : Lock) : Bool := (s_l07Clash a b).getD false
theorem s_clash_eq (a b : Lock) : s_l07Clash a b = some (cl a b) := by
  obtain ⟨r, hr⟩ := rangeBoth_some a.range b.range
  unfold cl s_l07Clash
  rw [hr]
  rfl
theorem i_clash_eq (a b : Lock) : i_clash a b = some (cl a b) := by
  rw [← s_clash_eq]
  obtain ⟨r, hr⟩ := rangeBoth_some a.range b.range
  unfold i_clash s_l07Clash
  rw [rangeBoth_eq, hr]
  simp only [bnd_some]
  cases ((a.tx.c == b.tx.c) && ((a.tx.e == b.tx.e) && ((a.tx.n == b.tx.n) && true))) <;> cases r.2 <;> cases a.ex <;> cases b.ex <;> rfl

noncomputable def outU {τ : Type} : Option τ → Unit ⊕ τ
  | some t => .inr t
  | none => .inl ()

theorem s_any (xs : List Lock) (x : Lock) (hn : xs.length < 9223372036854775807) : s_l07Any xs x = some (xs.any (cl x)) := by
  have := loop_first xs (fun _ y => if cl x y then some true else none) (Bs_l07Any_1 xs x) outU hn (fun k y hy => by
    have hlt := (List.getElem?_eq_some_iff.1 hy).1
    unfold Bs_l07Any_1
    rw [List.length_map, decide_eq_true (by omega : (k : Int) < (xs.length : Int)), cond_true, getI_at hy, bnd_some, s_clash_eq, bnd_some]
    cases cl x y <;> rfl) (by unfold Bs_l07Any_1; rw [List.length_map, decide_eq_false (by omega), cond_false]; rfl)
  unfold s_l07Any
  rw [this, firstL_any]
  cases xs.any (cl x) <;> rfl
theorem i_any (xs : List Lock) (x : Lock) (hn : xs.length < 9223372036854775807) : sl_ContainsFunc_Lock_i_isFree_c1 xs x = some (xs.any (cl x)) := by
  have := loop_first xs (fun k y => if cl x y then some (k : Int) else none) (Bsl_IndexFunc_Lock_i_isFree_c1_1 xs x) outU hn (fun k y hy => by
    have hlt := (List.getElem?_eq_some_iff.1 hy).1
    unfold Bsl_IndexFunc_Lock_i_isFree_c1_1 i_isFree_c1
    rw [List.length_map, decide_eq_true (by omega : (k : Int) < (xs.length : Int)), cond_true, getI_at hy, bnd_some, i_clash_eq, bnd_some, bnd_some]
    cases cl x y <;> rfl) (by unfold Bsl_IndexFunc_Lock_i_isFree_c1_1; rw [List.length_map, decide_eq_false (by omega), cond_false]; rfl)
  unfold sl_ContainsFunc_Lock_i_isFree_c1 sl_IndexFunc_Lock_i_isFree_c1
  rw [this]
  have key : ∀ (ys : List Lock) (k : Nat), (firstL (fun k y => if cl x y then some (k : Int) else none) ys k = none ∧ ys.any (cl x) = false) ∨ ∃ j : Nat, firstL (fun k y => if cl x y then some (k : Int) else none) ys k = some (j : Int) ∧ ys.any (cl x) = true := by
    intro ys
    induction ys with
    | nil => intro k; exact .inl ⟨rfl, rfl⟩
    | cons y ys ih =>
      intro k
      simp only [firstL, List.any_cons]
      cases h : cl x y with
      | true => exact .inr ⟨k, by simp, by simp⟩
      | false => simpa using ih (k + 1)
  rcases key xs 0 with ⟨h1, h2⟩ | ⟨j, h1, h2⟩
  · rw [h1, h2]; rfl
  · rw [h1, h2]
    simp [outU]
theorem i_free1 (x : Lock) (l : List Lock) (hn : l.length < 9223372036854775807) : i_isFree x [l] = some (!(l.any (cl x))) := by
  unfold i_isFree
  have h1 : Bi_isFree_1 x [l] 0 = if l.any (cl x) then some (.inr (.inr false)) else some (.inl 1) := by
    unfold Bi_isFree_1
    rw [decide_eq_true (by simp), cond_true, show getI [l] 0 = some l from rfl, bnd_some, i_any l x hn, bnd_some]
    cases l.any (cl x) <;> rfl
  have h2 : Bi_isFree_1 x [l] 1 = some (.inr (.inl ())) := by unfold Bi_isFree_1; rw [decide_eq_false (by simp), cond_false]
  rw [loopT_eq, h1]
  cases l.any (cl x) with
  | true => rfl
  | false => simp only [Bool.false_eq_true, if_false]; rw [loopT_eq, h2]; rfl
theorem i_free2 (x : Lock) (l m : List Lock) (hn : l.length < 9223372036854775807) (hm : m.length < 9223372036854775807) : i_isFree x [l, m] = some (!(l.any (cl x) || m.any (cl x))) := by
  unfold i_isFree
  have h1 : Bi_isFree_1 x [l, m] 0 = if l.any (cl x) then some (.inr (.inr false)) else some (.inl 1) := by
    unfold Bi_isFree_1
    rw [decide_eq_true (by simp), cond_true, show getI [l, m] 0 = some l from rfl, bnd_some, i_any l x hn, bnd_some]
    cases l.any (cl x) <;> rfl
  have h2 : Bi_isFree_1 x [l, m] 1 = if m.any (cl x) then some (.inr (.inr false)) else some (.inl 2) := by
    unfold Bi_isFree_1
    rw [decide_eq_true (by simp), cond_true, show getI [l, m] 1 = some m from rfl, bnd_some, i_any m x hm, bnd_some]
    cases m.any (cl x) <;> rfl
  have h3 : Bi_isFree_1 x [l, m] 2 = some (.inr (.inl ())) := by unfold Bi_isFree_1; rw [decide_eq_false (by simp), cond_false]
  rw [loopT_eq, h1]
  cases l.any (cl x) with
  | true => rfl
  | false =>
    simp only [Bool.false_eq_true, if_false]
    rw [loopT_eq, h2]
    cases m.any (cl x) with
    | true => rfl
    | false => simp only [Bool.false_eq_true, if_false]; rw [loopT_eq, h3]; rfl
theorem s_waits (l : Locks) (x : Tx) (hn : l.wait.length < 9223372036854775807) : s_l07Waits l x = some (l.wait.any fun y => sameTx y.tx x) := by
  have := loop_first l.wait (fun _ y => if sameTx y.tx x then some true else none) (Bs_l07Waits_1 l x) outU hn (fun k y hy => by
    have hlt := (List.getElem?_eq_some_iff.1 hy).1
    unfold Bs_l07Waits_1
    rw [List.length_map, decide_eq_true (by omega : (k : Int) < (l.wait.length : Int)), cond_true, getI_at hy, bnd_some]
    show (bif sameTx y.tx x then _ else _) = _
    cases sameTx y.tx x <;> rfl) (by unfold Bs_l07Waits_1; rw [List.length_map, decide_eq_false (by omega), cond_false]; rfl)
  unfold s_l07Waits
  rw [this, firstL_any]
  cases l.wait.any fun y => sameTx y.tx x <;> rfl
theorem i_waits (l : Locks) (x : Tx) (hn : l.wait.length < 9223372036854775807) : i_Locks_waits l x = some (l.wait.any fun y => sameTx y.tx x) := by
  have := loop_first l.wait (fun k y => if sameTx y.tx x then some (k : Int) else none) (Bsl_IndexFunc_Lock_i_Locks_waits_c1_1 l.wait x) outU hn (fun k y hy => by
    have hlt := (List.getElem?_eq_some_iff.1 hy).1
    unfold Bsl_IndexFunc_Lock_i_Locks_waits_c1_1 i_Locks_waits_c1
    rw [List.length_map, decide_eq_true (by omega : (k : Int) < (l.wait.length : Int)), cond_true, getI_at hy, bnd_some]
    show (bif sameTx y.tx x then _ else _) = _
    cases sameTx y.tx x <;> rfl) (by unfold Bsl_IndexFunc_Lock_i_Locks_waits_c1_1; rw [List.length_map, decide_eq_false (by omega), cond_false]; rfl)
  unfold i_Locks_waits sl_ContainsFunc_Lock_i_Locks_waits_c1 sl_IndexFunc_Lock_i_Locks_waits_c1
  rw [this]
  have key : ∀ (ys : List Lock) (k : Nat), (firstL (fun k y => if sameTx y.tx x then some (k : Int) else none) ys k = none ∧ (ys.any fun y => sameTx y.tx x) = false) ∨ ∃ j : Nat, firstL (fun k y => if sameTx y.tx x then some (k : Int) else none) ys k = some (j : Int) ∧ (ys.any fun y => sameTx y.tx x) = true := by
    intro ys
    induction ys with
    | nil => intro k; exact .inl ⟨rfl, rfl⟩
    | cons y ys ih =>
      intro k
      simp only [firstL, List.any_cons]
      cases h : sameTx y.tx x with
      | true => exact .inr ⟨k, by simp, by simp⟩
      | false => simpa using ih (k + 1)
  rcases key l.wait 0 with ⟨h1, h2⟩ | ⟨j, h1, h2⟩
  · rw [h1, h2]; rfl
  · rw [h1, h2]
    simp [outU]

/-! ### LocksOk, LockAsk -/
noncomputable def q1 (p : Locks) (k : Nat) (x : Lock) : Option Bool := if (bif !(s_l07LockOk x) then true else (p.held.take k).any (cl x)) then some false else none
noncomputable def q2 (p : Locks) (k : Nat) (x : Lock) : Option Bool :=
  if (bif !(s_l07LockOk x) then true else bif (p.wait.take k).any (fun y => sameTx y.tx x.tx) then true else bif (!(p.held.any (cl x))) then !((p.wait.take k).any (cl x)) else false) then some false else none
noncomputable def okB (p : Locks) : Bool :=
  bif decide ((p.held.length : Int) + (p.wait.length : Int) > 60) then false else match firstL (q1 p) p.held 0 with
    | some t => t
    | none => match firstL (q2 p) p.wait 0 with
      | some t => t
      | none => true
noncomputable def Small (p : Locks) : Prop := p.held.length * 64 ≤ 140737488355328 ∧ p.wait.length * 64 ≤ 140737488355328
theorem tk_lt {xs : List Lock} {k : Nat} (h : xs.length * 64 ≤ 140737488355328) : (xs.take k).length < 9223372036854775807 := by simp only [List.length_take]; omega

theorem s_LocksOk_eq (p : Locks) (hp : Small p) : s_LocksOk p = some (okB p) := by
  obtain ⟨hh, hw⟩ := hp
  have e1 := loop_first p.held (q1 p) (Bs_LocksOk_1 p) outU (by omega) (fun k x hx => by
    have hlt := (List.getElem?_eq_some_iff.1 hx).1
    unfold Bs_LocksOk_1 q1
    rw [List.length_map, decide_eq_true (by omega : (k : Int) < (p.held.length : Int)), cond_true, getI_at hx, bnd_some]
    cases s_l07LockOk x with
    | false => rfl
    | true =>
      simp only [Bool.not_true, cond_false]
      rw [chk_i (by omega), Int.toNat_natCast, s_any _ _ (tk_lt hh), bnd_some, bnd_some]
      cases (p.held.take k).any (cl x) <;> rfl) (by unfold Bs_LocksOk_1; rw [List.length_map, decide_eq_false (by omega), cond_false]; rfl)
  have e2 := loop_first p.wait (q2 p) (Bs_LocksOk_2 p) outU (by omega) (fun k x hx => by
    have hlt := (List.getElem?_eq_some_iff.1 hx).1
    unfold Bs_LocksOk_2 q2
    rw [List.length_map, decide_eq_true (by omega : (k : Int) < (p.wait.length : Int)), cond_true, getI_at hx, bnd_some]
    cases s_l07LockOk x with
    | false => rfl
    | true =>
      simp only [Bool.not_true, cond_false]
      rw [chk_i (by omega), Int.toNat_natCast, s_waits _ _ (tk_lt hw), bnd_some]
      cases (p.wait.take k).any (fun y => sameTx y.tx x.tx) with
      | true => rfl
      | false =>
        simp only [cond_false]
        rw [s_any _ _ (by omega), bnd_some]
        cases p.held.any (cl x) with
        | true => rfl
        | false =>
          simp only [Bool.not_false, cond_true]
          rw [chk_i (by omega), s_any _ _ (tk_lt hw), bnd_some, bnd_some]
          cases (p.wait.take k).any (cl x) <;> rfl) (by unfold Bs_LocksOk_2; rw [List.length_map, decide_eq_false (by omega), cond_false]; rfl)
  unfold s_LocksOk okB
  rw [List.length_map, List.length_map, wrapL _ (by omega) (by omega), e1, e2]
  cases decide ((p.held.length : Int) + (p.wait.length : Int) > 60) with
  | true => rfl
  | false =>
    simp only [cond_false]
    cases firstL (q1 p) p.held 0 with
    | some t => rfl
    | none =>
      cases firstL (q2 p) p.wait 0 with
      | some t => rfl
      | none => rfl
theorem i_LocksOk_eq (p : Locks) (hp : Small p) : i_LocksOk p = some (okB p) := by
  obtain ⟨hh, hw⟩ := hp
  have e1 := loop_first p.held (q1 p) (Bi_LocksOk_1 p) outU (by omega) (fun k x hx => by
    have hlt := (List.getElem?_eq_some_iff.1 hx).1
    unfold Bi_LocksOk_1 q1
    rw [List.length_map, decide_eq_true (by omega : (k : Int) < (p.held.length : Int)), cond_true, getI_at hx, bnd_some, lockOk_eq]
    cases s_l07LockOk x with
    | false => rfl
    | true =>
      simp only [Bool.not_true, cond_false]
      rw [chk_i (by omega), Int.toNat_natCast, i_free1 _ _ (tk_lt hh), bnd_some, bnd_some]
      cases (p.held.take k).any (cl x) <;> rfl) (by unfold Bi_LocksOk_1; rw [List.length_map, decide_eq_false (by omega), cond_false]; rfl)
  have e2 := loop_first p.wait (q2 p) (Bi_LocksOk_2 p) outU (by omega) (fun k x hx => by
    have hlt := (List.getElem?_eq_some_iff.1 hx).1
    unfold Bi_LocksOk_2 q2
    rw [List.length_map, decide_eq_true (by omega : (k : Int) < (p.wait.length : Int)), cond_true, getI_at hx, bnd_some, chk_i (by omega), lockOk_eq]
    cases s_l07LockOk x with
    | false => rfl
    | true =>
      simp only [Bool.not_true, cond_false]
      rw [Int.toNat_natCast, i_waits _ _ (tk_lt hw), bnd_some]
      cases (p.wait.take k).any (fun y => sameTx y.tx x.tx) with
      | true => rfl
      | false =>
        simp only [cond_false]
        rw [chk_i (by omega), i_free2 _ _ _ (by omega) (tk_lt hw), bnd_some, bnd_some]
        cases p.held.any (cl x) <;> cases (p.wait.take k).any (cl x) <;> rfl) (by unfold Bi_LocksOk_2; rw [List.length_map, decide_eq_false (by omega), cond_false]; rfl)
  unfold i_LocksOk okB
  rw [List.length_map, List.length_map, wrapL _ (by omega) (by omega), e1, e2]
  cases decide ((p.held.length : Int) + (p.wait.length : Int) > 60) with
  | true => rfl
  | false =>
    simp only [cond_false]
    cases firstL (q1 p) p.held 0 with
    | some t => rfl
    | none =>
      cases firstL (q2 p) p.wait 0 with
      | some t => rfl
      | none => rfl
theorem okB_len {p : Locks} (h : okB p = true) : p.held.length + p.wait.length ≤ 60 := by
  unfold okB at h
  cases hd : decide ((p.held.length : Int) + (p.wait.length : Int) > 60) with
  | true => rw [hd] at h; cases h
  | false => have := of_decide_eq_false hd; omega
noncomputable def askR (p : Locks) (x : Lock) : Locks × Int :=
  bif (!okB p) || (!s_l07LockOk x) || p.wait.any (fun y => sameTx y.tx x.tx) then (⟨[], []⟩, 1)
  else bif decide (p.held.length + p.wait.length = 60) then (⟨[], []⟩, 2)
  else bif p.held.any (cl x) || p.wait.any (cl x) then (⟨p.held, p.wait ++ [x]⟩, 3) else (⟨p.held ++ [x], p.wait⟩, 0)
theorem s_LockAsk_eq (p : Locks) (x : Lock) (hp : Small p) : s_LockAsk p x = some (askR p x) := by
  have hh := hp.1
  have hw := hp.2
  unfold s_LockAsk askR
  rw [s_LocksOk_eq p hp, bnd_some]
  cases hok : okB p with
  | false => rfl
  | true =>
    have hl := okB_len hok
    cases s_l07LockOk x with
    | false => rfl
    | true =>
      simp only [Bool.not_true, cond_false, Bool.false_or]
      rw [s_waits _ _ (by omega), bnd_some, bnd_some]
      cases p.wait.any (fun y => sameTx y.tx x.tx) with
      | true => rfl
      | false =>
        simp only [cond_false]
        rw [List.length_map, List.length_map, wrapL _ (by omega) (by omega)]
        by_cases h60 : p.held.length + p.wait.length = 60
        · rw [decide_eq_true (by omega), decide_eq_true h60]; rfl
        · rw [decide_eq_false (by omega), decide_eq_false h60]
          simp only [cond_false]
          unfold s_l07Copy
          rw [chk_i (by simp; omega), chk_i (by simp; omega), bnd_some, s_any _ _ (by omega), bnd_some]
          cases p.held.any (cl x) with
          | true => simp only [cond_true, bnd_some, Bool.true_or]; rw [chk_i (by simp; omega)]
          | false =>
            simp only [cond_false, Bool.false_or]
            rw [s_any _ _ (by omega), bnd_some, bnd_some]
            cases p.wait.any (cl x) <;> simp only [cond_true, cond_false] <;> rw [chk_i (by simp; omega)]
theorem i_LockAsk_eq (p : Locks) (x : Lock) (hp : Small p) : i_LockAsk p x = some (askR p x) := by
  have hh := hp.1
  have hw := hp.2
  unfold i_LockAsk askR
  rw [i_LocksOk_eq p hp, bnd_some, lockOk_eq]
  cases hok : okB p with
  | false => rfl
  | true =>
    have hl := okB_len hok
    cases s_l07LockOk x with
    | false => rfl
    | true =>
      simp only [Bool.not_true, cond_false, Bool.false_or, bnd_some]
      unfold i_copyLocks i_Locks_ask
      rw [chk_i (by simp; omega), chk_i (by simp; omega), bnd_some, i_waits _ _ (by omega), bnd_some]
      cases p.wait.any (fun y => sameTx y.tx x.tx) with
      | true => rfl
      | false =>
        simp only [cond_false]
        rw [List.length_map, List.length_map, wrapL _ (by omega) (by omega)]
        by_cases h60 : p.held.length + p.wait.length = 60
        · rw [show (((p.held.length : Int) + (p.wait.length : Int)) == 60) = true by simp; omega, decide_eq_true h60]; rfl
        · rw [show (((p.held.length : Int) + (p.wait.length : Int)) == 60) = false by simp; omega, decide_eq_false h60]
          simp only [cond_false]
          rw [i_free2 _ _ _ (by omega) (by omega), bnd_some]
          cases p.held.any (cl x) <;> cases p.wait.any (cl x) <;> simp only [Bool.or_true, Bool.or_false, Bool.not_true, Bool.not_false, cond_true, cond_false] <;> rw [chk_i (by simp; omega)] <;> rfl
end Go.Proofs.Ytijmnochaamllaa
namespace Go.Proofs.Ytijmnochaamllaa
open Go.Mv Go.RowKit
noncomputable def w_eqTx (p0 : Tx) (p1 : Tx) : Bool :=
 bif ((p0.c != p1.c)) then
 (false)
 else
 (bif ((p0.e != p1.e)) then
 (false)
 else
 (bif ((p0.n != p1.n)) then
 (false)
 else
 (true)))
set_option maxHeartbeats 4000000 in
/-- laws.eqTx -/
theorem k_w_eqTx (p0 : Tx) (p1 : Tx) (v : Bool) (h : w_eqTx p0 p1 = v) : CallOK Try.prog 56 [.agg [.c (iC p0.c), .c (iC p0.e), .c (iC p0.n)], .agg [.c (iC p1.c), .c (iC p1.e), .c (iC p1.n)]] (bV v) [] :=
  callOK tyOK Try.func56 rfl fun w S hS => by
    unfold w_eqTx at h
    refine a_seq ?_
    refine a_run [2, 3] tyOK (st1 := mk 20 [(2, .one (.pl [(2, 0)] 0 0)), (3, .one (.pl [(3, 0)] 0 0))] [(2, [.bx [iC p0.c, iC p0.e, iC p0.n]]), (3, [.bx [iC p1.c, iC p1.e, iC p1.n]])]) (by kernel_rfl) ?_
    refine a_seq ?_
    refine a_seq ?_
    refine a_run [2, 3, 9] tyOK (st1 := mk 20 [(2, .one (.pl [(2, 0)] 0 0)), (3, .one (.pl [(3, 0)] 0 0)), (9, bV ((p0.c != p1.c)))] [(2, [.bx [iC p0.c, iC p0.e, iC p0.n]]), (3, [.bx [iC p1.c, iC p1.e, iC p1.n]])]) (by kernel_rfl) ?_
    refine a_cond (b := (p0.c != p1.c)) (by kernel_rfl) (fun h1 => ?_) (fun h1 => ?_)
    · replace h := cT h1 h
      refine a_seq ?_
      refine a_run [4] tyOK (st1 := mk 20 [(4, bV false)] []) (by kernel_rfl) ?_
      refine a_ret ?_
      obtain rfl := h
      exact end_eq (res' := bV false) (by kernel_rfl) (by first | rfl | simp)
    · replace h := cF h1 h
      refine a_skip ?_
      refine a_seq ?_
      refine a_seq ?_
      refine a_run [2, 3, 14] tyOK (st1 := mk 20 [(2, .one (.pl [(2, 0)] 0 0)), (3, .one (.pl [(3, 0)] 0 0)), (14, bV ((p0.e != p1.e)))] [(2, [.bx [iC p0.c, iC p0.e, iC p0.n]]), (3, [.bx [iC p1.c, iC p1.e, iC p1.n]])]) (by kernel_rfl) ?_
      refine a_cond (b := (p0.e != p1.e)) (by kernel_rfl) (fun h2 => ?_) (fun h2 => ?_)
      · replace h := cT h2 h
        refine a_seq ?_
        refine a_run [4] tyOK (st1 := mk 20 [(4, bV false)] []) (by kernel_rfl) ?_
        refine a_ret ?_
        obtain rfl := h
        exact end_eq (res' := bV false) (by kernel_rfl) (by first | rfl | simp)
      · replace h := cF h2 h
        refine a_skip ?_
        refine a_seq ?_
        refine a_seq ?_
        refine a_run [19] tyOK (st1 := mk 20 [(19, bV ((p0.n != p1.n)))] []) (by kernel_rfl) ?_
        refine a_cond (b := (p0.n != p1.n)) (by kernel_rfl) (fun h3 => ?_) (fun h3 => ?_)
        · replace h := cT h3 h
          refine a_seq ?_
          refine a_run [4] tyOK (st1 := mk 20 [(4, bV false)] []) (by kernel_rfl) ?_
          refine a_ret ?_
          obtain rfl := h
          exact end_eq (res' := bV false) (by kernel_rfl) (by first | rfl | simp)
        · replace h := cF h3 h
          refine a_skip ?_
          refine a_seq ?_
          refine a_run [4] tyOK (st1 := mk 20 [(4, bV true)] []) (by kernel_rfl) ?_
          refine a_ret ?_
          obtain rfl := h
          exact end_eq (res' := bV true) (by kernel_rfl) (by first | rfl | simp)

noncomputable def w_eqRange (p0 : Range) (p1 : Range) : Bool :=
 bif (!(p0.lo.toList == p1.lo.toList)) then
 (false)
 else
 (bif (!(p0.hi.toList == p1.hi.toList)) then
 (false)
 else
 (true))
set_option maxHeartbeats 4000000 in
/-- laws.eqRange -/
theorem k_w_eqRange (p0 : Range) (p1 : Range) (v : Bool) (h : w_eqRange p0 p1 = v) : CallOK Try.prog 88 [.agg [.c (sC p0.lo), .c (sC p0.hi)], .agg [.c (sC p1.lo), .c (sC p1.hi)]] (bV v) [] :=
  callOK tyOK Try.func88 rfl fun w S hS => by
    unfold w_eqRange at h
    refine a_seq ?_
    refine a_run [2, 3] tyOK (st1 := mk 15 [(2, .one (.pl [(2, 0)] 0 0)), (3, .one (.pl [(3, 0)] 0 0))] [(2, [.bx [sC p0.lo, sC p0.hi]]), (3, [.bx [sC p1.lo, sC p1.hi]])]) (by kernel_rfl) ?_
    refine a_seq ?_
    refine a_seq ?_
    refine a_run [2, 3, 9] tyOK (st1 := mk 15 [(2, .one (.pl [(2, 0)] 0 0)), (3, .one (.pl [(3, 0)] 0 0)), (9, bV (!(p0.lo.toList == p1.lo.toList)))] [(2, [.bx [sC p0.lo, sC p0.hi]]), (3, [.bx [sC p1.lo, sC p1.hi]])]) (by kernel_rfl) ?_
    refine a_cond (b := !(p0.lo.toList == p1.lo.toList)) (by kernel_rfl) (fun h1 => ?_) (fun h1 => ?_)
    · replace h := cT h1 h
      refine a_seq ?_
      refine a_run [4] tyOK (st1 := mk 15 [(4, bV false)] []) (by kernel_rfl) ?_
      refine a_ret ?_
      obtain rfl := h
      exact end_eq (res' := bV false) (by kernel_rfl) (by first | rfl | simp)
    · replace h := cF h1 h
      refine a_skip ?_
      refine a_seq ?_
      refine a_seq ?_
      refine a_run [14] tyOK (st1 := mk 15 [(14, bV (!(p0.hi.toList == p1.hi.toList)))] []) (by kernel_rfl) ?_
      refine a_cond (b := !(p0.hi.toList == p1.hi.toList)) (by kernel_rfl) (fun h2 => ?_) (fun h2 => ?_)
      · replace h := cT h2 h
        refine a_seq ?_
        refine a_run [4] tyOK (st1 := mk 15 [(4, bV false)] []) (by kernel_rfl) ?_
        refine a_ret ?_
        obtain rfl := h
        exact end_eq (res' := bV false) (by kernel_rfl) (by first | rfl | simp)
      · replace h := cF h2 h
        refine a_skip ?_
        refine a_seq ?_
        refine a_run [4] tyOK (st1 := mk 15 [(4, bV true)] []) (by kernel_rfl) ?_
        refine a_ret ?_
        obtain rfl := h
        exact end_eq (res' := bV true) (by kernel_rfl) (by first | rfl | simp)

noncomputable def w_eqLock (p0 : Lock) (p1 : Lock) : Bool :=
 bif (!(w_eqTx p0.tx p1.tx)) then
 (false)
 else
 (bif (!(w_eqRange p0.range p1.range)) then
 (false)
 else
 (bif (!(p0.ex == p1.ex)) then
 (false)
 else
 (true)))
set_option maxHeartbeats 4000000 in
/-- laws.eqLock -/
theorem k_w_eqLock (p0 : Lock) (p1 : Lock) (v : Bool) (h : w_eqLock p0 p1 = v) : CallOK Try.prog 94 [.agg [.c (iC p0.tx.c), .c (iC p0.tx.e), .c (iC p0.tx.n), .c (sC p0.range.lo), .c (sC p0.range.hi), .c (bC p0.ex)], .agg [.c (iC p1.tx.c), .c (iC p1.tx.e), .c (iC p1.tx.n), .c (sC p1.range.lo), .c (sC p1.range.hi), .c (bC p1.ex)]] (bV v) [] :=
  callOK tyOK Try.func94 rfl fun w S hS => by
    unfold w_eqLock at h
    refine a_seq ?_
    refine a_run [2, 3] tyOK (st1 := mk 22 [(2, .one (.pl [(2, 0)] 0 0)), (3, .one (.pl [(3, 0)] 0 0))] [(2, [.bx [iC p0.tx.c, iC p0.tx.e, iC p0.tx.n, sC p0.range.lo, sC p0.range.hi, bC p0.ex]]), (3, [.bx [iC p1.tx.c, iC p1.tx.e, iC p1.tx.n, sC p1.range.lo, sC p1.range.hi, bC p1.ex]])]) (by kernel_rfl) ?_
    refine a_seq ?_
    refine a_seq ?_
    refine a_ops [0, 1, 2, 3, 4, 5] (by kernel_rfl) ?_
    refine ao_some [0, 1, 2, 3] [4, 5] [2, 3, 6, 8] tyOK (st1 := mk 22 [(2, .one (.pl [(2, 0)] 0 0)), (3, .one (.pl [(3, 0)] 0 0)), (6, .agg [.c (iC p0.tx.c), .c (iC p0.tx.e), .c (iC p0.tx.n)]), (8, .agg [.c (iC p1.tx.c), .c (iC p1.tx.e), .c (iC p1.tx.n)])] [(2, [.bx [iC p0.tx.c, iC p0.tx.e, iC p0.tx.n, sC p0.range.lo, sC p0.range.hi, bC p0.ex]]), (3, [.bx [iC p1.tx.c, iC p1.tx.e, iC p1.tx.n, sC p1.range.lo, sC p1.range.hi, bC p1.ex]])]) (by kernel_rfl) ?_
    refine ao_enter (f := 56) (d := 9) (A := [.agg [.c (iC p0.tx.c), .c (iC p0.tx.e), .c (iC p0.tx.n)], .agg [.c (iC p1.tx.c), .c (iC p1.tx.e), .c (iC p1.tx.n)]]) (st1 := mk 22 [(2, .one (.pl [(2, 0)] 0 0)), (3, .one (.pl [(3, 0)] 0 0)), (9, bV (w_eqTx p0.tx p1.tx))] [(2, [.bx [iC p0.tx.c, iC p0.tx.e, iC p0.tx.n, sC p0.range.lo, sC p0.range.hi, bC p0.ex]]), (3, [.bx [iC p1.tx.c, iC p1.tx.e, iC p1.tx.n, sC p1.range.lo, sC p1.range.hi, bC p1.ex]])]) [2, 3, 9] (k_w_eqTx p0.tx p1.tx _ rfl) Try.call56 (by kernel_rfl) (by kernel_rfl) (by kernel_rfl) ?_
    refine ao_some [5] [] [2, 3, 10] tyOK (st1 := mk 22 [(2, .one (.pl [(2, 0)] 0 0)), (3, .one (.pl [(3, 0)] 0 0)), (10, bV (!(w_eqTx p0.tx p1.tx)))] [(2, [.bx [iC p0.tx.c, iC p0.tx.e, iC p0.tx.n, sC p0.range.lo, sC p0.range.hi, bC p0.ex]]), (3, [.bx [iC p1.tx.c, iC p1.tx.e, iC p1.tx.n, sC p1.range.lo, sC p1.range.hi, bC p1.ex]])]) (by kernel_rfl) ?_
    refine ao_nil ?_
    refine a_cond (b := !(w_eqTx p0.tx p1.tx)) (by kernel_rfl) (fun h1 => ?_) (fun h1 => ?_)
    · replace h := cT h1 h
      refine a_seq ?_
      refine a_run [4] tyOK (st1 := mk 22 [(4, bV false)] []) (by kernel_rfl) ?_
      refine a_ret ?_
      obtain rfl := h
      exact end_eq (res' := bV false) (by kernel_rfl) (by first | rfl | simp)
    · replace h := cF h1 h
      refine a_skip ?_
      refine a_seq ?_
      refine a_seq ?_
      refine a_ops [0, 1, 2, 3, 4, 5] (by kernel_rfl) ?_
      refine ao_some [0, 1, 2, 3] [4, 5] [2, 3, 12, 14] tyOK (st1 := mk 22 [(2, .one (.pl [(2, 0)] 0 0)), (3, .one (.pl [(3, 0)] 0 0)), (12, .agg [.c (sC p0.range.lo), .c (sC p0.range.hi)]), (14, .agg [.c (sC p1.range.lo), .c (sC p1.range.hi)])] [(2, [.bx [iC p0.tx.c, iC p0.tx.e, iC p0.tx.n, sC p0.range.lo, sC p0.range.hi, bC p0.ex]]), (3, [.bx [iC p1.tx.c, iC p1.tx.e, iC p1.tx.n, sC p1.range.lo, sC p1.range.hi, bC p1.ex]])]) (by kernel_rfl) ?_
      refine ao_enter (f := 88) (d := 15) (A := [.agg [.c (sC p0.range.lo), .c (sC p0.range.hi)], .agg [.c (sC p1.range.lo), .c (sC p1.range.hi)]]) (st1 := mk 22 [(2, .one (.pl [(2, 0)] 0 0)), (3, .one (.pl [(3, 0)] 0 0)), (15, bV (w_eqRange p0.range p1.range))] [(2, [.bx [iC p0.tx.c, iC p0.tx.e, iC p0.tx.n, sC p0.range.lo, sC p0.range.hi, bC p0.ex]]), (3, [.bx [iC p1.tx.c, iC p1.tx.e, iC p1.tx.n, sC p1.range.lo, sC p1.range.hi, bC p1.ex]])]) [2, 3, 15] (k_w_eqRange p0.range p1.range _ rfl) Try.call88 (by kernel_rfl) (by kernel_rfl) (by kernel_rfl) ?_
      refine ao_some [5] [] [2, 3, 16] tyOK (st1 := mk 22 [(2, .one (.pl [(2, 0)] 0 0)), (3, .one (.pl [(3, 0)] 0 0)), (16, bV (!(w_eqRange p0.range p1.range)))] [(2, [.bx [iC p0.tx.c, iC p0.tx.e, iC p0.tx.n, sC p0.range.lo, sC p0.range.hi, bC p0.ex]]), (3, [.bx [iC p1.tx.c, iC p1.tx.e, iC p1.tx.n, sC p1.range.lo, sC p1.range.hi, bC p1.ex]])]) (by kernel_rfl) ?_
      refine ao_nil ?_
      refine a_cond (b := !(w_eqRange p0.range p1.range)) (by kernel_rfl) (fun h2 => ?_) (fun h2 => ?_)
      · replace h := cT h2 h
        refine a_seq ?_
        refine a_run [4] tyOK (st1 := mk 22 [(4, bV false)] []) (by kernel_rfl) ?_
        refine a_ret ?_
        obtain rfl := h
        exact end_eq (res' := bV false) (by kernel_rfl) (by first | rfl | simp)
      · replace h := cF h2 h
        refine a_skip ?_
        refine a_seq ?_
        refine a_seq ?_
        refine a_run [21] tyOK (st1 := mk 22 [(21, bV (!(p0.ex == p1.ex)))] []) (by kernel_rfl) ?_
        refine a_cond (b := !(p0.ex == p1.ex)) (by kernel_rfl) (fun h3 => ?_) (fun h3 => ?_)
        · replace h := cT h3 h
          refine a_seq ?_
          refine a_run [4] tyOK (st1 := mk 22 [(4, bV false)] []) (by kernel_rfl) ?_
          refine a_ret ?_
          obtain rfl := h
          exact end_eq (res' := bV false) (by kernel_rfl) (by first | rfl | simp)
        · replace h := cF h3 h
          refine a_skip ?_
          refine a_seq ?_
          refine a_run [4] tyOK (st1 := mk 22 [(4, bV true)] []) (by kernel_rfl) ?_
          refine a_ret ?_
          obtain rfl := h
          exact end_eq (res' := bV true) (by kernel_rfl) (by first | rfl | simp)

noncomputable def Bw_eqLockS_1 (p0 : (List Lock)) (p1 : (List Lock)) (s1 : Int) : Option (Int ⊕ (Unit ⊕ (Bool))) :=
 bif (decide (s1 < (((((p0).map eLock).length : Nat) : Int)))) then
 (bnd (getI p0 s1) fun x1 =>
 bnd (getI p1 s1) fun x2 =>
 bif (!(w_eqLock x1 x2)) then
 (some (.inr (.inr false)))
 else
 (some (.inl (IntKind.wrap .i64 (s1 + 1)))))
 else
 (some (.inr (.inl (()))))

noncomputable def w_eqLockS (p0 : (List Lock)) (p1 : (List Lock)) : Option (Bool) :=
 bif (((((((p0).map eLock).length : Nat) : Int)) != (((((p1).map eLock).length : Nat) : Int)))) then
 (some false)
 else
 (bndS (loopT (Bw_eqLockS_1 p0 p1) 0) fun j1 =>
 some true)
set_option maxHeartbeats 4000000 in
/-- laws.eqLockS -/
theorem k_w_eqLockS (p0 : (List Lock)) (p1 : (List Lock)) (v : Bool) (h : w_eqLockS p0 p1 = some v) : CallOK Try.prog 71 [.one (.c (.sl 6 ((p0).map eLock))), .one (.c (.sl 6 ((p1).map eLock)))] (bV v) [] :=
  callOK tyOK Try.func71 rfl fun w S hS => by
    unfold w_eqLockS at h
    refine a_seq ?_
    refine a_run [0, 1] tyOK (st1 := mk 27 [(0, .one (.c (.sl 6 ((p0).map eLock)))), (1, .one (.c (.sl 6 ((p1).map eLock))))] []) (by kernel_rfl) ?_
    refine a_seq ?_
    refine a_seq ?_
    refine a_run [0, 1, 10] tyOK (st1 := mk 27 [(0, .one (.c (.sl 6 ((p0).map eLock)))), (1, .one (.c (.sl 6 ((p1).map eLock)))), (10, bV (((((((p0).map eLock).length : Nat) : Int)) != (((((p1).map eLock).length : Nat) : Int)))))] []) (by kernel_rfl) ?_
    refine a_cond (b := ((((((p0).map eLock).length : Nat) : Int)) != (((((p1).map eLock).length : Nat) : Int)))) (by kernel_rfl) (fun h1 => ?_) (fun h1 => ?_)
    · replace h := cT h1 h
      refine a_seq ?_
      refine a_run [4] tyOK (st1 := mk 27 [(4, bV false)] []) (by kernel_rfl) ?_
      refine a_ret ?_
      obtain rfl := Option.some.inj h
      exact end_eq (res' := bV false) (by kernel_rfl) (by first | rfl | simp)
    · replace h := cF h1 h
      refine a_skip ?_
      refine a_seq ?_
      refine a_seq ?_
      refine a_run [0, 1, 5] tyOK (st1 := mk 27 [(0, .one (.c (.sl 6 ((p0).map eLock)))), (1, .one (.c (.sl 6 ((p1).map eLock)))), (5, iV 0)] []) (by kernel_rfl) ?_
      obtain ⟨y1, h, ky1, zy1⟩ := bndS_e h
      refine a_joinT (ι := Unit) (fun j => mk 27 [] []) (fun j => y1 = .inl j) ?_ ?_
      · refine a_block ?_
        refine a_loopT (Bw_eqLockS_1 p0 p1) (fun s1 => mk 27 [(0, .one (.c (.sl 6 ((p0).map eLock)))), (1, .one (.c (.sl 6 ((p1).map eLock)))), (5, iV s1)] []) 0 h ?_ ?_
        · exact imp_keepTo [0, 1, 5] (by kernel_rfl) (imp_done rfl)
        intro s1 y2 h zy2
        unfold Bw_eqLockS_1 at h
        refine a_seq ?_
        refine a_seq ?_
        refine a_run [0, 1, 5, 14] tyOK (st1 := mk 27 [(0, .one (.c (.sl 6 ((p0).map eLock)))), (1, .one (.c (.sl 6 ((p1).map eLock)))), (5, iV s1), (14, bV (decide (s1 < (((((p0).map eLock).length : Nat) : Int)))))] []) (by kernel_rfl) ?_
        refine a_cond (b := decide (s1 < (((((p0).map eLock).length : Nat) : Int)))) (by kernel_rfl) (fun h2 => ?_) (fun h2 => ?_)
        · replace h := cT h2 h
          refine a_skip ?_
          refine a_seq ?_
          refine a_block ?_
          refine a_seq ?_
          obtain ⟨x1, ex1, h⟩ := bnd_e h
          obtain ⟨x2, ex2, h⟩ := bnd_e h
          refine a_mid (mk 27 [(0, .one (.c (.sl 6 ((p0).map eLock)))), (1, .one (.c (.sl 6 ((p1).map eLock)))), (5, iV s1), (26, bV (!(w_eqLock x1 x2)))] []) ?_ ?_
          · refine a_drawn (n := 10) [] (by kernel_rfl) (by kernel_rfl) ?_
            refine aa_take (fuel := 6) (listed' := #[true, true, false, false, true, true, false, false, false, false]) (st' := mk 27 [(0, .one (.c (.sl 6 ((p0).map eLock)))), (1, .one (.c (.sl 6 ((p1).map eLock)))), (5, iV s1), (17, .one (.c (.sl 6 ((p0).map eLock)))), (18, iV s1), (21, .one (.c (.sl 6 ((p1).map eLock)))), (22, iV s1)] []) [0, 1, 4, 5] [0, 1, 5, 17, 18, 21, 22] tyOK (by kernel_rfl) (by kernel_rfl) (by kernel_rfl) ?_
            refine aa_index (i := 2) (d := 19) (size := 6) (n := s1) (rows := (p0).map eLock) (listed' := #[true, true, true, false, true, true, false, false, false, false]) (st1 := mk 27 [(0, .one (.c (.sl 6 ((p0).map eLock)))), (1, .one (.c (.sl 6 ((p1).map eLock)))), (5, iV s1), (19, .one (.fp [iC x1.tx.c, iC x1.tx.e, iC x1.tx.n, sC x1.range.lo, sC x1.range.hi, bC x1.ex] 0)), (21, .one (.c (.sl 6 ((p1).map eLock)))), (22, iV s1)] []) (eLock x1) [0, 1, 5, 19, 21, 22] tyOK (by kernel_rfl) (by kernel_rfl) (getI_e ex1).1 (show ((p0).map eLock)[_]? = some _ from by rw [List.getElem?_map, (getI_e ex1).2]; rfl) (by kernel_rfl) (by kernel_rfl) (by kernel_rfl) (by kernel_rfl) ?_
            refine aa_take (fuel := 4) (listed' := #[true, true, true, true, true, true, false, false, false, false]) (st' := mk 27 [(0, .one (.c (.sl 6 ((p0).map eLock)))), (1, .one (.c (.sl 6 ((p1).map eLock)))), (5, iV s1), (20, .agg [.c (iC x1.tx.c), .c (iC x1.tx.e), .c (iC x1.tx.n), .c (sC x1.range.lo), .c (sC x1.range.hi), .c (bC x1.ex)]), (21, .one (.c (.sl 6 ((p1).map eLock)))), (22, iV s1)] []) [3] [0, 1, 5, 20, 21, 22] tyOK (by kernel_rfl) (by kernel_rfl) (by kernel_rfl) ?_
            refine aa_index (i := 6) (d := 23) (size := 6) (n := s1) (rows := (p1).map eLock) (listed' := #[true, true, true, true, true, true, true, false, false, false]) (st1 := mk 27 [(0, .one (.c (.sl 6 ((p0).map eLock)))), (1, .one (.c (.sl 6 ((p1).map eLock)))), (5, iV s1), (20, .agg [.c (iC x1.tx.c), .c (iC x1.tx.e), .c (iC x1.tx.n), .c (sC x1.range.lo), .c (sC x1.range.hi), .c (bC x1.ex)]), (23, .one (.fp [iC x2.tx.c, iC x2.tx.e, iC x2.tx.n, sC x2.range.lo, sC x2.range.hi, bC x2.ex] 0))] []) (eLock x2) [0, 1, 5, 20, 23] tyOK (by kernel_rfl) (by kernel_rfl) (getI_e ex2).1 (show ((p1).map eLock)[_]? = some _ from by rw [List.getElem?_map, (getI_e ex2).2]; rfl) (by kernel_rfl) (by kernel_rfl) (by kernel_rfl) (by kernel_rfl) ?_
            refine aa_take (fuel := 2) (listed' := #[true, true, true, true, true, true, true, true, false, false]) (st' := mk 27 [(0, .one (.c (.sl 6 ((p0).map eLock)))), (1, .one (.c (.sl 6 ((p1).map eLock)))), (5, iV s1), (20, .agg [.c (iC x1.tx.c), .c (iC x1.tx.e), .c (iC x1.tx.n), .c (sC x1.range.lo), .c (sC x1.range.hi), .c (bC x1.ex)]), (24, .agg [.c (iC x2.tx.c), .c (iC x2.tx.e), .c (iC x2.tx.n), .c (sC x2.range.lo), .c (sC x2.range.hi), .c (bC x2.ex)])] []) [7] [0, 1, 5, 20, 24] tyOK (by kernel_rfl) (by kernel_rfl) (by kernel_rfl) ?_
            refine aa_all [8] (by kernel_rfl) rfl ?_
            refine aa_cons ?_ aa_nil
            refine aone_enter (listed' := #[true, true, true, true, true, true, true, true, true, false]) (f := 94) (d := 25) (A := [.agg [.c (iC x1.tx.c), .c (iC x1.tx.e), .c (iC x1.tx.n), .c (sC x1.range.lo), .c (sC x1.range.hi), .c (bC x1.ex)], .agg [.c (iC x2.tx.c), .c (iC x2.tx.e), .c (iC x2.tx.n), .c (sC x2.range.lo), .c (sC x2.range.hi), .c (bC x2.ex)]]) (st1 := mk 27 [(0, .one (.c (.sl 6 ((p0).map eLock)))), (1, .one (.c (.sl 6 ((p1).map eLock)))), (5, iV s1), (25, bV (w_eqLock x1 x2))] []) [0, 1, 5, 25] (k_w_eqLock x1 x2 _ rfl) Try.call94 (by kernel_rfl) (by kernel_rfl) (by kernel_rfl) (by kernel_rfl) ?_
            refine aa_take (fuel := 0) (listed' := #[true, true, true, true, true, true, true, true, true, true]) (st' := mk 27 [(0, .one (.c (.sl 6 ((p0).map eLock)))), (1, .one (.c (.sl 6 ((p1).map eLock)))), (5, iV s1), (26, bV (!(w_eqLock x1 x2)))] []) [9] [0, 1, 5, 26] tyOK (by kernel_rfl) (by kernel_rfl) (by kernel_rfl) ?_
            refine aa_done (by kernel_rfl) ?_
            show _ = _; kernel_rfl
          refine a_cond (b := !(w_eqLock x1 x2)) (by kernel_rfl) (fun h3 => ?_) (fun h3 => ?_)
          · replace h := cT h3 h
            refine a_seq ?_
            refine a_run [4] tyOK (st1 := mk 27 [(4, bV false)] []) (by kernel_rfl) ?_
            refine a_ret ?_
            obtain rfl := Option.some.inj h
            obtain rfl := zy2 _ rfl
            obtain rfl := zy1 _ rfl
            exact end_eq (res' := bV false) (by kernel_rfl) (by first | rfl | simp)
          · replace h := cF h3 h
            refine a_skip ?_
            refine a_run [0, 1, 5] tyOK (st1 := mk 27 [(0, .one (.c (.sl 6 ((p0).map eLock)))), (1, .one (.c (.sl 6 ((p1).map eLock)))), (5, iV (IntKind.wrap .i64 (s1 + 1)))] []) (by kernel_rfl) ?_
            obtain rfl := Option.some.inj h
            show ∃ _, _ ∧ Imp _ _ _
            refine ⟨_, rfl, ?_⟩
            exact imp_keepTo [0, 1, 5] (by kernel_rfl) (imp_done rfl)
        · replace h := cF h2 h
          refine a_exit ?_
          obtain rfl := Option.some.inj h
          obtain rfl := zy2 _ rfl
          show ∃ _, _ ∧ Imp _ _ _
          refine ⟨_, rfl, ?_⟩
          exact imp_keepTo [] (by kernel_rfl) (imp_done rfl)
      intro j1 hj1
      replace h := ky1 _ hj1
      refine a_seq ?_
      refine a_run [4] tyOK (st1 := mk 27 [(4, bV true)] []) (by kernel_rfl) ?_
      refine a_ret ?_
      obtain rfl := Option.some.inj h
      exact end_eq (res' := bV true) (by kernel_rfl) (by first | rfl | simp)

noncomputable def w_eqLocks (p0 : Locks) (p1 : Locks) : Option (Bool) :=
 bnd (w_eqLockS p0.held p1.held) fun r1 =>
 bif (!r1) then
 (some false)
 else
 (bnd (w_eqLockS p0.wait p1.wait) fun r2 =>
 bif (!r2) then
 (some false)
 else
 (some true))
set_option maxHeartbeats 4000000 in
/-- laws.eqLocks -/
theorem k_w_eqLocks (p0 : Locks) (p1 : Locks) (v : Bool) (h : w_eqLocks p0 p1 = some v) : CallOK Try.prog 33 [.agg [.c (.sl 6 ((p0.held).map eLock)), .c (.sl 6 ((p0.wait).map eLock))], .agg [.c (.sl 6 ((p1.held).map eLock)), .c (.sl 6 ((p1.wait).map eLock))]] (bV v) [] :=
  callOK tyOK Try.func33 rfl fun w S hS => by
    unfold w_eqLocks at h
    refine a_seq ?_
    refine a_run [2, 3] tyOK (st1 := mk 17 [(2, .one (.pl [(2, 0)] 0 0)), (3, .one (.pl [(3, 0)] 0 0))] [(2, [.bx [.fz (.sl 6 ((p0.held).map eLock)), .fz (.sl 6 ((p0.wait).map eLock))]]), (3, [.bx [.fz (.sl 6 ((p1.held).map eLock)), .fz (.sl 6 ((p1.wait).map eLock))]])]) (by kernel_rfl) ?_
    refine a_seq ?_
    refine a_seq ?_
    refine a_ops [0, 1, 2, 3, 4, 5] (by kernel_rfl) ?_
    refine ao_some [0, 1, 2, 3] [4, 5] [2, 3, 6, 8] tyOK (st1 := mk 17 [(2, .one (.pl [(2, 0)] 0 0)), (3, .one (.pl [(3, 0)] 0 0)), (6, .one (.c (.sl 6 ((p0.held).map eLock)))), (8, .one (.c (.sl 6 ((p1.held).map eLock))))] [(2, [.bx [.fz (.sl 6 ((p0.held).map eLock)), .fz (.sl 6 ((p0.wait).map eLock))]]), (3, [.bx [.fz (.sl 6 ((p1.held).map eLock)), .fz (.sl 6 ((p1.wait).map eLock))]])]) (by kernel_rfl) ?_
    obtain ⟨r1, er1, h⟩ := bnd_e h
    refine ao_enter (f := 71) (d := 9) (A := [.one (.c (.sl 6 ((p0.held).map eLock))), .one (.c (.sl 6 ((p1.held).map eLock)))]) (st1 := mk 17 [(2, .one (.pl [(2, 0)] 0 0)), (3, .one (.pl [(3, 0)] 0 0)), (9, bV r1)] [(2, [.bx [.fz (.sl 6 ((p0.held).map eLock)), .fz (.sl 6 ((p0.wait).map eLock))]]), (3, [.bx [.fz (.sl 6 ((p1.held).map eLock)), .fz (.sl 6 ((p1.wait).map eLock))]])]) [2, 3, 9] (k_w_eqLockS p0.held p1.held r1 er1) Try.call71 (by kernel_rfl) (by kernel_rfl) (by kernel_rfl) ?_
    refine ao_some [5] [] [2, 3, 10] tyOK (st1 := mk 17 [(2, .one (.pl [(2, 0)] 0 0)), (3, .one (.pl [(3, 0)] 0 0)), (10, bV (!r1))] [(2, [.bx [.fz (.sl 6 ((p0.held).map eLock)), .fz (.sl 6 ((p0.wait).map eLock))]]), (3, [.bx [.fz (.sl 6 ((p1.held).map eLock)), .fz (.sl 6 ((p1.wait).map eLock))]])]) (by kernel_rfl) ?_
    refine ao_nil ?_
    refine a_cond (b := !r1) (by kernel_rfl) (fun h1 => ?_) (fun h1 => ?_)
    · replace h := cT h1 h
      refine a_seq ?_
      refine a_run [4] tyOK (st1 := mk 17 [(4, bV false)] []) (by kernel_rfl) ?_
      refine a_ret ?_
      obtain rfl := Option.some.inj h
      exact end_eq (res' := bV false) (by kernel_rfl) (by first | rfl | simp)
    · replace h := cF h1 h
      refine a_skip ?_
      refine a_seq ?_
      refine a_seq ?_
      refine a_ops [0, 1, 2, 3, 4, 5] (by kernel_rfl) ?_
      refine ao_some [0, 1, 2, 3] [4, 5] [12, 14] tyOK (st1 := mk 17 [(12, .one (.c (.sl 6 ((p0.wait).map eLock)))), (14, .one (.c (.sl 6 ((p1.wait).map eLock))))] []) (by kernel_rfl) ?_
      obtain ⟨r2, er2, h⟩ := bnd_e h
      refine ao_enter (f := 71) (d := 15) (A := [.one (.c (.sl 6 ((p0.wait).map eLock))), .one (.c (.sl 6 ((p1.wait).map eLock)))]) (st1 := mk 17 [(15, bV r2)] []) [15] (k_w_eqLockS p0.wait p1.wait r2 er2) Try.call71 (by kernel_rfl) (by kernel_rfl) (by kernel_rfl) ?_
      refine ao_some [5] [] [16] tyOK (st1 := mk 17 [(16, bV (!r2))] []) (by kernel_rfl) ?_
      refine ao_nil ?_
      refine a_cond (b := !r2) (by kernel_rfl) (fun h2 => ?_) (fun h2 => ?_)
      · replace h := cT h2 h
        refine a_seq ?_
        refine a_run [4] tyOK (st1 := mk 17 [(4, bV false)] []) (by kernel_rfl) ?_
        refine a_ret ?_
        obtain rfl := Option.some.inj h
        exact end_eq (res' := bV false) (by kernel_rfl) (by first | rfl | simp)
      · replace h := cF h2 h
        refine a_skip ?_
        refine a_seq ?_
        refine a_run [4] tyOK (st1 := mk 17 [(4, bV true)] []) (by kernel_rfl) ?_
        refine a_ret ?_
        obtain rfl := Option.some.inj h
        exact end_eq (res' := bV true) (by kernel_rfl) (by first | rfl | simp)

end Go.Proofs.Ytijmnochaamllaa
namespace Go.Proofs.Ytijmnochaamllaa
open Go.Mv Go.RowKit
structure Sw_markText_1 where
  v0 : Int
  v3 : ByteArray

noncomputable def Bw_markText_1 (s1 : Sw_markText_1) : Option (Sw_markText_1 ⊕ ByteArray) :=
 bif (decide (s1.v0 > 0)) then
 (chk (((byteB (IntKind.wrap .u8 (IntKind.wrap .i64 (48 + (Int.tmod s1.v0 10))))).size + s1.v3.size ≤ 140737488355328)) <|
 some (.inl ((⟨IntKind.wrap .i64 (Int.tdiv s1.v0 10), (byteB (IntKind.wrap .u8 (IntKind.wrap .i64 (48 + (Int.tmod s1.v0 10))))) ++ s1.v3⟩ : Sw_markText_1))))
 else
 (some (.inr s1.v3))

noncomputable def w_markText (p0 : Int) : Option (ByteArray) :=
 bif (decide (p0 ≤ 0)) then
 (some ((⟨#[109, 48]⟩ : ByteArray)))
 else
 (bnd (loopT (Bw_markText_1) ((⟨p0, (⟨#[]⟩ : ByteArray)⟩ : Sw_markText_1))) fun j1 =>
 chk ((((⟨#[109]⟩ : ByteArray)).size + j1.size ≤ 140737488355328)) <|
 some (((⟨#[109]⟩ : ByteArray)) ++ j1))
set_option maxHeartbeats 4000000 in
/-- laws.markText -/
theorem k_w_markText (p0 : Int) (v : ByteArray) (h : w_markText p0 = some v) : CallOK Try.prog 79 [iV p0] (sV v) [] :=
  callOK tyOK Try.func79 rfl fun w S hS => by
    unfold w_markText at h
    refine a_seq ?_
    refine a_run [0] tyOK (st1 := mk 20 [(0, iV p0)] []) (by kernel_rfl) ?_
    refine a_seq ?_
    refine a_seq ?_
    refine a_run [0, 5] tyOK (st1 := mk 20 [(0, iV p0), (5, bV (decide (p0 ≤ 0)))] []) (by kernel_rfl) ?_
    refine a_cond (b := decide (p0 ≤ 0)) (by kernel_rfl) (fun h1 => ?_) (fun h1 => ?_)
    · replace h := cT h1 h
      refine a_seq ?_
      refine a_run [2] tyOK (st1 := mk 20 [(2, sV ((⟨#[109, 48]⟩ : ByteArray)))] []) (by kernel_rfl) ?_
      refine a_ret ?_
      obtain rfl := Option.some.inj h
      exact end_eq (res' := sV ((⟨#[109, 48]⟩ : ByteArray))) (by kernel_rfl) (by first | rfl | simp)
    · replace h := cF h1 h
      refine a_skip ?_
      refine a_seq ?_
      refine a_run [0, 3] tyOK (st1 := mk 20 [(0, iV p0), (3, sV ((⟨#[]⟩ : ByteArray)))] []) (by kernel_rfl) ?_
      refine a_seq ?_
      obtain ⟨y1, h, ky1⟩ := bndJ_e h
      refine a_joinT (ι := ByteArray) (fun j => mk 20 [(3, sV j)] []) (fun j => y1 = j) ?_ ?_
      · refine a_block ?_
        refine a_loopT (Bw_markText_1) (fun s1 => mk 20 [(0, iV s1.v0), (3, sV s1.v3)] []) ((⟨p0, (⟨#[]⟩ : ByteArray)⟩ : Sw_markText_1)) h ?_ ?_
        · exact imp_keepTo [0, 3] (by kernel_rfl) (imp_done rfl)
        intro s1 y2 h zy2
        unfold Bw_markText_1 at h
        refine a_seq ?_
        refine a_seq ?_
        refine a_run [0, 3, 7] tyOK (st1 := mk 20 [(0, iV s1.v0), (3, sV s1.v3), (7, bV (decide (s1.v0 > 0)))] []) (by kernel_rfl) ?_
        refine a_cond (b := decide (s1.v0 > 0)) (by kernel_rfl) (fun h2 => ?_) (fun h2 => ?_)
        · replace h := cT h2 h
          refine a_skip ?_
          refine a_block ?_
          refine a_seq ?_
          refine a_ops [0, 1, 2, 3, 4, 5, 6, 7, 8] (by kernel_rfl) ?_
          refine ao_some [0, 1, 2, 3, 4, 5, 6] [7, 8] [0, 13, 14] tyOK (st1 := mk 20 [(0, iV s1.v0), (13, sV (byteB (IntKind.wrap .u8 (IntKind.wrap .i64 (48 + (Int.tmod s1.v0 10)))))), (14, sV s1.v3)] []) (by kernel_rfl) ?_
          obtain ⟨c1, h⟩ := chk_e h
          refine ao_q (d := 15) (c := ((byteB (IntKind.wrap .u8 (IntKind.wrap .i64 (48 + (Int.tmod s1.v0 10))))).size + s1.v3.size ≤ 140737488355328)) (tv := sV ((byteB (IntKind.wrap .u8 (IntKind.wrap .i64 (48 + (Int.tmod s1.v0 10))))) ++ s1.v3)) (st1 := mk 20 [(0, iV s1.v0), (15, sV ((byteB (IntKind.wrap .u8 (IntKind.wrap .i64 (48 + (Int.tmod s1.v0 10))))) ++ s1.v3))] []) [0, 15] tyOK (by kernel_rfl) (by exact c1) (by kernel_rfl) ?_
          refine ao_some [8] [] [0, 3] tyOK (st1 := mk 20 [(0, iV s1.v0), (3, sV ((byteB (IntKind.wrap .u8 (IntKind.wrap .i64 (48 + (Int.tmod s1.v0 10))))) ++ s1.v3))] []) (by kernel_rfl) ?_
          refine ao_nil ?_
          refine a_run [0, 3] tyOK (st1 := mk 20 [(0, iV (IntKind.wrap .i64 (Int.tdiv s1.v0 10))), (3, sV ((byteB (IntKind.wrap .u8 (IntKind.wrap .i64 (48 + (Int.tmod s1.v0 10))))) ++ s1.v3))] []) (by kernel_rfl) ?_
          obtain rfl := Option.some.inj h
          show ∃ _, _ ∧ Imp _ _ _
          refine ⟨_, rfl, ?_⟩
          exact imp_keepTo [0, 3] (by kernel_rfl) (imp_done rfl)
        · replace h := cF h2 h
          refine a_exit ?_
          obtain rfl := Option.some.inj h
          obtain rfl := zy2 _ rfl
          show ∃ _, _ ∧ Imp _ _ _
          refine ⟨_, rfl, ?_⟩
          exact imp_keepTo [3] (by kernel_rfl) (imp_done rfl)
      intro j1 hj1
      replace h := ky1 _ hj1
      refine a_seq ?_
      refine a_ops [0, 1, 2] (by kernel_rfl) ?_
      refine ao_some [0] [1, 2] [18] tyOK (st1 := mk 20 [(18, sV j1)] []) (by kernel_rfl) ?_
      obtain ⟨c2, h⟩ := chk_e h
      refine ao_q (d := 19) (c := (((⟨#[109]⟩ : ByteArray)).size + j1.size ≤ 140737488355328)) (tv := sV (((⟨#[109]⟩ : ByteArray)) ++ j1)) (st1 := mk 20 [(19, sV (((⟨#[109]⟩ : ByteArray)) ++ j1))] []) [19] tyOK (by kernel_rfl) (by exact c2) (by kernel_rfl) ?_
      refine ao_some [2] [] [2] tyOK (st1 := mk 20 [(2, sV (((⟨#[109]⟩ : ByteArray)) ++ j1))] []) (by kernel_rfl) ?_
      refine ao_nil ?_
      refine a_ret ?_
      obtain rfl := Option.some.inj h
      exact end_eq (res' := sV (((⟨#[109]⟩ : ByteArray)) ++ j1)) (by kernel_rfl) (by first | rfl | simp)

structure Xw_markLockS_1 where
  v1 : Int
  w0_0 : (List Lock)

structure Sw_markLockS_1 where
  v1 : Int
  v5 : Int
  w0_0 : (List Lock)

noncomputable def Bw_markLockS_1 (s1 : Sw_markLockS_1) : Option (Sw_markLockS_1 ⊕ Xw_markLockS_1) :=
 bif (decide (s1.v5 < ((((s1.w0_0).length : Nat) : Int)))) then
 (bnd (getI s1.w0_0 s1.v5) fun x1 =>
 bnd (w_markText (IntKind.wrap .i64 ((IntKind.wrap .i64 ((IntKind.wrap .i64 (s1.v1 + 1)) + 1)) + 1))) fun r1 =>
 bnd (w_markText (IntKind.wrap .i64 ((IntKind.wrap .i64 ((IntKind.wrap .i64 ((IntKind.wrap .i64 (s1.v1 + 1)) + 1)) + 1)) + 1))) fun r2 =>
 some (.inl ((⟨IntKind.wrap .i64 ((IntKind.wrap .i64 ((IntKind.wrap .i64 ((IntKind.wrap .i64 ((IntKind.wrap .i64 ((IntKind.wrap .i64 (s1.v1 + 1)) + 1)) + 1)) + 1)) + 1)) + 1), IntKind.wrap .i64 (s1.v5 + 1), s1.w0_0.set ((s1.v5).toNat) ((⟨(⟨s1.v1, IntKind.wrap .i64 (s1.v1 + 1), IntKind.wrap .i64 ((IntKind.wrap .i64 (s1.v1 + 1)) + 1)⟩ : Tx), (⟨r1, r2⟩ : Range), ((Int.tmod (IntKind.wrap .i64 ((IntKind.wrap .i64 ((IntKind.wrap .i64 ((IntKind.wrap .i64 ((IntKind.wrap .i64 (s1.v1 + 1)) + 1)) + 1)) + 1)) + 1)) 3) == 0)⟩ : Lock))⟩ : Sw_markLockS_1))))
 else
 (some (.inr ((⟨s1.v1, s1.w0_0⟩ : Xw_markLockS_1))))

noncomputable def w_markLockS (p0 : (List Lock)) (p1 : Int) : Option ((List Lock) × Int) :=
 bnd (loopT (Bw_markLockS_1) ((⟨p1, 0, p0⟩ : Sw_markLockS_1))) fun j1 =>
 some ((j1.w0_0, j1.v1))
set_option maxHeartbeats 4000000 in
/-- laws.markLockS -/
theorem k_w_markLockS (p0 : (List Lock)) (p1 : Int) (v : (List Lock) × Int) (h : w_markLockS p0 p1 = some v) : CallG Try.prog 72 [.sl 6 ((p0).map eLock)] [.one (.so [] 0 0 ((p0).length)), iV p1] [.sl 6 ((v.1).map eLock)] (iV v.2) [] :=
  callG tyOK Try.func72 rfl (by simp) fun w S γ hS => by
    unfold w_markLockS at h
    refine a_seq ?_
    refine a_run [0, 1] tyOK (st1 := mk 64 [(0, .one (.so [] 0 0 ((p0).length))), (1, iV p1)] [(0, [.sl 6 ((p0).map eLock)])]) (by kernel_rfl) ?_
    refine a_seq ?_
    refine a_seq ?_
    refine a_run [0, 1, 5] tyOK (st1 := mk 64 [(0, .one (.so [] 0 0 ((p0).length))), (1, iV p1), (5, iV 0)] [(0, [.sl 6 ((p0).map eLock)])]) (by kernel_rfl) ?_
    obtain ⟨y1, h, ky1⟩ := bndJ_e h
    refine a_joinT (ι := Xw_markLockS_1) (fun j => mk 64 [(0, .one (.so [] 0 0 ((j.w0_0).length))), (1, iV j.v1)] [(0, [.sl 6 ((j.w0_0).map eLock)])]) (fun j => y1 = j) ?_ ?_
    · refine a_block ?_
      refine a_loopT (Bw_markLockS_1) (fun s1 => mk 64 [(0, .one (.so [] 0 0 ((s1.w0_0).length))), (1, iV s1.v1), (5, iV s1.v5)] [(0, [.sl 6 ((s1.w0_0).map eLock)])]) ((⟨p1, 0, p0⟩ : Sw_markLockS_1)) h ?_ ?_
      · exact imp_keepTo [0, 1, 5] (by kernel_rfl) (imp_done rfl)
      intro s1 y2 h zy2
      unfold Bw_markLockS_1 at h
      refine a_seq ?_
      refine a_seq ?_
      refine a_run [0, 1, 5, 9] tyOK (st1 := mk 64 [(0, .one (.so [] 0 0 ((s1.w0_0).length))), (1, iV s1.v1), (5, iV s1.v5), (9, bV (decide (s1.v5 < ((((s1.w0_0).length : Nat) : Int)))))] [(0, [.sl 6 ((s1.w0_0).map eLock)])]) (by kernel_rfl) ?_
      refine a_cond (b := decide (s1.v5 < ((((s1.w0_0).length : Nat) : Int)))) (by kernel_rfl) (fun h1 => ?_) (fun h1 => ?_)
      · replace h := cT h1 h
        refine a_skip ?_
        refine a_seq ?_
        refine a_block ?_
        refine a_seq ?_
        refine a_ops [0, 1, 2, 3, 4, 5, 6] (by kernel_rfl) ?_
        refine ao_some [0, 1, 2] [3, 4, 5, 6] [0, 1, 5, 12, 13, 14] tyOK (st1 := mk 64 [(0, .one (.so [] 0 0 ((s1.w0_0).length))), (1, iV s1.v1), (5, iV s1.v5), (12, .one (.so [] 0 0 ((s1.w0_0).length))), (13, iV s1.v5), (14, iV s1.v1)] [(0, [.sl 6 ((s1.w0_0).map eLock)])]) (by kernel_rfl) ?_
        obtain ⟨x1, ex1, h⟩ := bnd_e h
        refine ao_indexOwn (d := 15) (size := 6) (n0 := ((s1.w0_0).length)) (n := s1.v5) (p := [(0, 0)]) (rows := (s1.w0_0).map eLock) (st1 := mk 64 [(0, .one (.so [] 0 0 ((s1.w0_0).length))), (1, iV s1.v1), (5, iV s1.v5), (14, iV s1.v1), (15, .one (.pl [(0, 0)] ((s1.v5).toNat) 0))] [(0, [.sl 6 ((s1.w0_0).map eLock)])]) [iC x1.tx.c, iC x1.tx.e, iC x1.tx.n, sC x1.range.lo, sC x1.range.hi, bC x1.ex] [0, 1, 5, 14, 15] tyOK (by kernel_rfl) (by simpa using getI_both ex1) (by exact get_map (getI_e ex1).2) (by kernel_rfl) (by kernel_rfl) ?_
        refine ao_some [4, 5] [6] [0, 1, 5, 14, 17] tyOK (st1 := mk 64 [(0, .one (.so [] 0 0 ((s1.w0_0).length))), (1, iV s1.v1), (5, iV s1.v5), (14, iV s1.v1), (17, .one (.pl [(0, 0)] ((s1.v5).toNat) 0))] [(0, [.sl 6 ((s1.w0_0).map eLock)])]) (by kernel_rfl) ?_
        refine ao_storeAt (n := ((s1.v5).toNat)) (f := 0) (q := [(0, 0)]) (rows := (s1.w0_0).map eLock) (rows' := (s1.w0_0.set ((s1.v5).toNat) ((⟨(⟨s1.v1, x1.tx.e, x1.tx.n⟩ : Tx), x1.range, x1.ex⟩ : Lock))).map eLock) (szs := []) (ts := [.c (iC s1.v1)]) (t1 := (mk 64 [(0, .one (.so [] 0 0 ((s1.w0_0).length))), (1, iV s1.v1), (5, iV s1.v5), (14, iV s1.v1), (17, .one (.pl [(0, 0)] ((s1.v5).toNat) 0))] [(0, [.sl 6 ((s1.w0_0).map eLock)])]).t) (st1 := mk 64 [(0, .one (.so [] 0 0 ((s1.w0_0).length))), (1, iV s1.v1), (5, iV s1.v5)] [(0, [.sl 6 ((s1.w0_0.set ((s1.v5).toNat) ((⟨(⟨s1.v1, x1.tx.e, x1.tx.n⟩ : Tx), x1.range, x1.ex⟩ : Lock))).map eLock)])]) [iC x1.tx.c, iC x1.tx.e, iC x1.tx.n, sC x1.range.lo, sC x1.range.hi, bC x1.ex] [0, 1, 5] tyOK (by kernel_rfl) (by exact get_map (getI_e ex1).2) (Nat.le_of_ble_eq_true rfl) (by kernel_rfl) (by exact set_map_row0 rfl) (by kernel_rfl) ?_
        refine ao_nil ?_
        refine a_seq ?_
        refine a_run [0, 1, 5] tyOK (st1 := mk 64 [(0, .one (.so [] 0 0 ((s1.w0_0).length))), (1, iV (IntKind.wrap .i64 (s1.v1 + 1))), (5, iV s1.v5)] [(0, [.sl 6 ((s1.w0_0.set ((s1.v5).toNat) ((⟨(⟨s1.v1, x1.tx.e, x1.tx.n⟩ : Tx), x1.range, x1.ex⟩ : Lock))).map eLock)])]) (by kernel_rfl) ?_
        refine a_seq ?_
        refine a_ops [0, 1, 2, 3, 4, 5, 6] (by kernel_rfl) ?_
        refine ao_some [0, 1, 2] [3, 4, 5, 6] [0, 1, 5, 20, 21, 22] tyOK (st1 := mk 64 [(0, .one (.so [] 0 0 ((s1.w0_0).length))), (1, iV (IntKind.wrap .i64 (s1.v1 + 1))), (5, iV s1.v5), (20, .one (.so [] 0 0 ((s1.w0_0).length))), (21, iV s1.v5), (22, iV (IntKind.wrap .i64 (s1.v1 + 1)))] [(0, [.sl 6 ((s1.w0_0.set ((s1.v5).toNat) ((⟨(⟨s1.v1, x1.tx.e, x1.tx.n⟩ : Tx), x1.range, x1.ex⟩ : Lock))).map eLock)])]) (by kernel_rfl) ?_
        refine ao_indexOwn (d := 23) (size := 6) (n0 := ((s1.w0_0).length)) (n := s1.v5) (p := [(0, 0)]) (rows := (s1.w0_0.set ((s1.v5).toNat) ((⟨(⟨s1.v1, x1.tx.e, x1.tx.n⟩ : Tx), x1.range, x1.ex⟩ : Lock))).map eLock) (st1 := mk 64 [(0, .one (.so [] 0 0 ((s1.w0_0).length))), (1, iV (IntKind.wrap .i64 (s1.v1 + 1))), (5, iV s1.v5), (22, iV (IntKind.wrap .i64 (s1.v1 + 1))), (23, .one (.pl [(0, 0)] ((s1.v5).toNat) 0))] [(0, [.sl 6 ((s1.w0_0.set ((s1.v5).toNat) ((⟨(⟨s1.v1, x1.tx.e, x1.tx.n⟩ : Tx), x1.range, x1.ex⟩ : Lock))).map eLock)])]) [iC s1.v1, iC x1.tx.e, iC x1.tx.n, sC x1.range.lo, sC x1.range.hi, bC x1.ex] [0, 1, 5, 22, 23] tyOK (by kernel_rfl) (by simpa using getI_both ex1) (by exact get_set_map (getI_lt ex1)) (by kernel_rfl) (by kernel_rfl) ?_
        refine ao_some [4, 5] [6] [0, 1, 5, 22, 25] tyOK (st1 := mk 64 [(0, .one (.so [] 0 0 ((s1.w0_0).length))), (1, iV (IntKind.wrap .i64 (s1.v1 + 1))), (5, iV s1.v5), (22, iV (IntKind.wrap .i64 (s1.v1 + 1))), (25, .one (.pl [(0, 0)] ((s1.v5).toNat) 1))] [(0, [.sl 6 ((s1.w0_0.set ((s1.v5).toNat) ((⟨(⟨s1.v1, x1.tx.e, x1.tx.n⟩ : Tx), x1.range, x1.ex⟩ : Lock))).map eLock)])]) (by kernel_rfl) ?_
        refine ao_storeAt (n := ((s1.v5).toNat)) (f := 1) (q := [(0, 0)]) (rows := (s1.w0_0.set ((s1.v5).toNat) ((⟨(⟨s1.v1, x1.tx.e, x1.tx.n⟩ : Tx), x1.range, x1.ex⟩ : Lock))).map eLock) (rows' := (s1.w0_0.set ((s1.v5).toNat) ((⟨(⟨s1.v1, IntKind.wrap .i64 (s1.v1 + 1), x1.tx.n⟩ : Tx), x1.range, x1.ex⟩ : Lock))).map eLock) (szs := []) (ts := [.c (iC (IntKind.wrap .i64 (s1.v1 + 1)))]) (t1 := (mk 64 [(0, .one (.so [] 0 0 ((s1.w0_0).length))), (1, iV (IntKind.wrap .i64 (s1.v1 + 1))), (5, iV s1.v5), (22, iV (IntKind.wrap .i64 (s1.v1 + 1))), (25, .one (.pl [(0, 0)] ((s1.v5).toNat) 1))] [(0, [.sl 6 ((s1.w0_0.set ((s1.v5).toNat) ((⟨(⟨s1.v1, x1.tx.e, x1.tx.n⟩ : Tx), x1.range, x1.ex⟩ : Lock))).map eLock)])]).t) (st1 := mk 64 [(0, .one (.so [] 0 0 ((s1.w0_0).length))), (1, iV (IntKind.wrap .i64 (s1.v1 + 1))), (5, iV s1.v5)] [(0, [.sl 6 ((s1.w0_0.set ((s1.v5).toNat) ((⟨(⟨s1.v1, IntKind.wrap .i64 (s1.v1 + 1), x1.tx.n⟩ : Tx), x1.range, x1.ex⟩ : Lock))).map eLock)])]) [iC s1.v1, iC x1.tx.e, iC x1.tx.n, sC x1.range.lo, sC x1.range.hi, bC x1.ex] [0, 1, 5] tyOK (by kernel_rfl) (by exact get_set_map (getI_lt ex1)) (Nat.le_of_ble_eq_true rfl) (by kernel_rfl) (by exact set_map_row rfl) (by kernel_rfl) ?_
        refine ao_nil ?_
        refine a_seq ?_
        refine a_run [0, 1, 5] tyOK (st1 := mk 64 [(0, .one (.so [] 0 0 ((s1.w0_0).length))), (1, iV (IntKind.wrap .i64 ((IntKind.wrap .i64 (s1.v1 + 1)) + 1))), (5, iV s1.v5)] [(0, [.sl 6 ((s1.w0_0.set ((s1.v5).toNat) ((⟨(⟨s1.v1, IntKind.wrap .i64 (s1.v1 + 1), x1.tx.n⟩ : Tx), x1.range, x1.ex⟩ : Lock))).map eLock)])]) (by kernel_rfl) ?_
        refine a_seq ?_
        refine a_ops [0, 1, 2, 3, 4, 5, 6] (by kernel_rfl) ?_
        refine ao_some [0, 1, 2] [3, 4, 5, 6] [0, 1, 5, 28, 29, 30] tyOK (st1 := mk 64 [(0, .one (.so [] 0 0 ((s1.w0_0).length))), (1, iV (IntKind.wrap .i64 ((IntKind.wrap .i64 (s1.v1 + 1)) + 1))), (5, iV s1.v5), (28, .one (.so [] 0 0 ((s1.w0_0).length))), (29, iV s1.v5), (30, iV (IntKind.wrap .i64 ((IntKind.wrap .i64 (s1.v1 + 1)) + 1)))] [(0, [.sl 6 ((s1.w0_0.set ((s1.v5).toNat) ((⟨(⟨s1.v1, IntKind.wrap .i64 (s1.v1 + 1), x1.tx.n⟩ : Tx), x1.range, x1.ex⟩ : Lock))).map eLock)])]) (by kernel_rfl) ?_
        refine ao_indexOwn (d := 31) (size := 6) (n0 := ((s1.w0_0).length)) (n := s1.v5) (p := [(0, 0)]) (rows := (s1.w0_0.set ((s1.v5).toNat) ((⟨(⟨s1.v1, IntKind.wrap .i64 (s1.v1 + 1), x1.tx.n⟩ : Tx), x1.range, x1.ex⟩ : Lock))).map eLock) (st1 := mk 64 [(0, .one (.so [] 0 0 ((s1.w0_0).length))), (1, iV (IntKind.wrap .i64 ((IntKind.wrap .i64 (s1.v1 + 1)) + 1))), (5, iV s1.v5), (30, iV (IntKind.wrap .i64 ((IntKind.wrap .i64 (s1.v1 + 1)) + 1))), (31, .one (.pl [(0, 0)] ((s1.v5).toNat) 0))] [(0, [.sl 6 ((s1.w0_0.set ((s1.v5).toNat) ((⟨(⟨s1.v1, IntKind.wrap .i64 (s1.v1 + 1), x1.tx.n⟩ : Tx), x1.range, x1.ex⟩ : Lock))).map eLock)])]) [iC s1.v1, iC (IntKind.wrap .i64 (s1.v1 + 1)), iC x1.tx.n, sC x1.range.lo, sC x1.range.hi, bC x1.ex] [0, 1, 5, 30, 31] tyOK (by kernel_rfl) (by simpa using getI_both ex1) (by exact get_set_map (getI_lt ex1)) (by kernel_rfl) (by kernel_rfl) ?_
        refine ao_some [4, 5] [6] [0, 1, 5, 30, 33] tyOK (st1 := mk 64 [(0, .one (.so [] 0 0 ((s1.w0_0).length))), (1, iV (IntKind.wrap .i64 ((IntKind.wrap .i64 (s1.v1 + 1)) + 1))), (5, iV s1.v5), (30, iV (IntKind.wrap .i64 ((IntKind.wrap .i64 (s1.v1 + 1)) + 1))), (33, .one (.pl [(0, 0)] ((s1.v5).toNat) 2))] [(0, [.sl 6 ((s1.w0_0.set ((s1.v5).toNat) ((⟨(⟨s1.v1, IntKind.wrap .i64 (s1.v1 + 1), x1.tx.n⟩ : Tx), x1.range, x1.ex⟩ : Lock))).map eLock)])]) (by kernel_rfl) ?_
        refine ao_storeAt (n := ((s1.v5).toNat)) (f := 2) (q := [(0, 0)]) (rows := (s1.w0_0.set ((s1.v5).toNat) ((⟨(⟨s1.v1, IntKind.wrap .i64 (s1.v1 + 1), x1.tx.n⟩ : Tx), x1.range, x1.ex⟩ : Lock))).map eLock) (rows' := (s1.w0_0.set ((s1.v5).toNat) ((⟨(⟨s1.v1, IntKind.wrap .i64 (s1.v1 + 1), IntKind.wrap .i64 ((IntKind.wrap .i64 (s1.v1 + 1)) + 1)⟩ : Tx), x1.range, x1.ex⟩ : Lock))).map eLock) (szs := []) (ts := [.c (iC (IntKind.wrap .i64 ((IntKind.wrap .i64 (s1.v1 + 1)) + 1)))]) (t1 := (mk 64 [(0, .one (.so [] 0 0 ((s1.w0_0).length))), (1, iV (IntKind.wrap .i64 ((IntKind.wrap .i64 (s1.v1 + 1)) + 1))), (5, iV s1.v5), (30, iV (IntKind.wrap .i64 ((IntKind.wrap .i64 (s1.v1 + 1)) + 1))), (33, .one (.pl [(0, 0)] ((s1.v5).toNat) 2))] [(0, [.sl 6 ((s1.w0_0.set ((s1.v5).toNat) ((⟨(⟨s1.v1, IntKind.wrap .i64 (s1.v1 + 1), x1.tx.n⟩ : Tx), x1.range, x1.ex⟩ : Lock))).map eLock)])]).t) (st1 := mk 64 [(0, .one (.so [] 0 0 ((s1.w0_0).length))), (1, iV (IntKind.wrap .i64 ((IntKind.wrap .i64 (s1.v1 + 1)) + 1))), (5, iV s1.v5)] [(0, [.sl 6 ((s1.w0_0.set ((s1.v5).toNat) ((⟨(⟨s1.v1, IntKind.wrap .i64 (s1.v1 + 1), IntKind.wrap .i64 ((IntKind.wrap .i64 (s1.v1 + 1)) + 1)⟩ : Tx), x1.range, x1.ex⟩ : Lock))).map eLock)])]) [iC s1.v1, iC (IntKind.wrap .i64 (s1.v1 + 1)), iC x1.tx.n, sC x1.range.lo, sC x1.range.hi, bC x1.ex] [0, 1, 5] tyOK (by kernel_rfl) (by exact get_set_map (getI_lt ex1)) (Nat.le_of_ble_eq_true rfl) (by kernel_rfl) (by exact set_map_row rfl) (by kernel_rfl) ?_
        refine ao_nil ?_
        refine a_seq ?_
        refine a_run [0, 1, 5] tyOK (st1 := mk 64 [(0, .one (.so [] 0 0 ((s1.w0_0).length))), (1, iV (IntKind.wrap .i64 ((IntKind.wrap .i64 ((IntKind.wrap .i64 (s1.v1 + 1)) + 1)) + 1))), (5, iV s1.v5)] [(0, [.sl 6 ((s1.w0_0.set ((s1.v5).toNat) ((⟨(⟨s1.v1, IntKind.wrap .i64 (s1.v1 + 1), IntKind.wrap .i64 ((IntKind.wrap .i64 (s1.v1 + 1)) + 1)⟩ : Tx), x1.range, x1.ex⟩ : Lock))).map eLock)])]) (by kernel_rfl) ?_
        refine a_seq ?_
        refine a_ops [0, 1, 2, 3, 4, 5, 6, 7] (by kernel_rfl) ?_
        refine ao_some [0, 1, 2] [3, 4, 5, 6, 7] [0, 1, 5, 36, 37, 38] tyOK (st1 := mk 64 [(0, .one (.so [] 0 0 ((s1.w0_0).length))), (1, iV (IntKind.wrap .i64 ((IntKind.wrap .i64 ((IntKind.wrap .i64 (s1.v1 + 1)) + 1)) + 1))), (5, iV s1.v5), (36, .one (.so [] 0 0 ((s1.w0_0).length))), (37, iV s1.v5), (38, iV (IntKind.wrap .i64 ((IntKind.wrap .i64 ((IntKind.wrap .i64 (s1.v1 + 1)) + 1)) + 1)))] [(0, [.sl 6 ((s1.w0_0.set ((s1.v5).toNat) ((⟨(⟨s1.v1, IntKind.wrap .i64 (s1.v1 + 1), IntKind.wrap .i64 ((IntKind.wrap .i64 (s1.v1 + 1)) + 1)⟩ : Tx), x1.range, x1.ex⟩ : Lock))).map eLock)])]) (by kernel_rfl) ?_
        obtain ⟨r1, er1, h⟩ := bnd_e h
        refine ao_enter (f := 79) (d := 39) (A := [iV (IntKind.wrap .i64 ((IntKind.wrap .i64 ((IntKind.wrap .i64 (s1.v1 + 1)) + 1)) + 1))]) (st1 := mk 64 [(0, .one (.so [] 0 0 ((s1.w0_0).length))), (1, iV (IntKind.wrap .i64 ((IntKind.wrap .i64 ((IntKind.wrap .i64 (s1.v1 + 1)) + 1)) + 1))), (5, iV s1.v5), (36, .one (.so [] 0 0 ((s1.w0_0).length))), (37, iV s1.v5), (39, sV r1)] [(0, [.sl 6 ((s1.w0_0.set ((s1.v5).toNat) ((⟨(⟨s1.v1, IntKind.wrap .i64 (s1.v1 + 1), IntKind.wrap .i64 ((IntKind.wrap .i64 (s1.v1 + 1)) + 1)⟩ : Tx), x1.range, x1.ex⟩ : Lock))).map eLock)])]) [0, 1, 5, 36, 37, 39] (k_w_markText (IntKind.wrap .i64 ((IntKind.wrap .i64 ((IntKind.wrap .i64 (s1.v1 + 1)) + 1)) + 1)) r1 er1) Try.call79 (by kernel_rfl) (by kernel_rfl) (by kernel_rfl) ?_
        refine ao_indexOwn (d := 40) (size := 6) (n0 := ((s1.w0_0).length)) (n := s1.v5) (p := [(0, 0)]) (rows := (s1.w0_0.set ((s1.v5).toNat) ((⟨(⟨s1.v1, IntKind.wrap .i64 (s1.v1 + 1), IntKind.wrap .i64 ((IntKind.wrap .i64 (s1.v1 + 1)) + 1)⟩ : Tx), x1.range, x1.ex⟩ : Lock))).map eLock) (st1 := mk 64 [(0, .one (.so [] 0 0 ((s1.w0_0).length))), (1, iV (IntKind.wrap .i64 ((IntKind.wrap .i64 ((IntKind.wrap .i64 (s1.v1 + 1)) + 1)) + 1))), (5, iV s1.v5), (39, sV r1), (40, .one (.pl [(0, 0)] ((s1.v5).toNat) 0))] [(0, [.sl 6 ((s1.w0_0.set ((s1.v5).toNat) ((⟨(⟨s1.v1, IntKind.wrap .i64 (s1.v1 + 1), IntKind.wrap .i64 ((IntKind.wrap .i64 (s1.v1 + 1)) + 1)⟩ : Tx), x1.range, x1.ex⟩ : Lock))).map eLock)])]) [iC s1.v1, iC (IntKind.wrap .i64 (s1.v1 + 1)), iC (IntKind.wrap .i64 ((IntKind.wrap .i64 (s1.v1 + 1)) + 1)), sC x1.range.lo, sC x1.range.hi, bC x1.ex] [0, 1, 5, 39, 40] tyOK (by kernel_rfl) (by simpa using getI_both ex1) (by exact get_set_map (getI_lt ex1)) (by kernel_rfl) (by kernel_rfl) ?_
        refine ao_some [5, 6] [7] [0, 1, 5, 39, 42] tyOK (st1 := mk 64 [(0, .one (.so [] 0 0 ((s1.w0_0).length))), (1, iV (IntKind.wrap .i64 ((IntKind.wrap .i64 ((IntKind.wrap .i64 (s1.v1 + 1)) + 1)) + 1))), (5, iV s1.v5), (39, sV r1), (42, .one (.pl [(0, 0)] ((s1.v5).toNat) 3))] [(0, [.sl 6 ((s1.w0_0.set ((s1.v5).toNat) ((⟨(⟨s1.v1, IntKind.wrap .i64 (s1.v1 + 1), IntKind.wrap .i64 ((IntKind.wrap .i64 (s1.v1 + 1)) + 1)⟩ : Tx), x1.range, x1.ex⟩ : Lock))).map eLock)])]) (by kernel_rfl) ?_
        refine ao_storeAt (n := ((s1.v5).toNat)) (f := 3) (q := [(0, 0)]) (rows := (s1.w0_0.set ((s1.v5).toNat) ((⟨(⟨s1.v1, IntKind.wrap .i64 (s1.v1 + 1), IntKind.wrap .i64 ((IntKind.wrap .i64 (s1.v1 + 1)) + 1)⟩ : Tx), x1.range, x1.ex⟩ : Lock))).map eLock) (rows' := (s1.w0_0.set ((s1.v5).toNat) ((⟨(⟨s1.v1, IntKind.wrap .i64 (s1.v1 + 1), IntKind.wrap .i64 ((IntKind.wrap .i64 (s1.v1 + 1)) + 1)⟩ : Tx), (⟨r1, x1.range.hi⟩ : Range), x1.ex⟩ : Lock))).map eLock) (szs := []) (ts := [.c (sC r1)]) (t1 := (mk 64 [(0, .one (.so [] 0 0 ((s1.w0_0).length))), (1, iV (IntKind.wrap .i64 ((IntKind.wrap .i64 ((IntKind.wrap .i64 (s1.v1 + 1)) + 1)) + 1))), (5, iV s1.v5), (39, sV r1), (42, .one (.pl [(0, 0)] ((s1.v5).toNat) 3))] [(0, [.sl 6 ((s1.w0_0.set ((s1.v5).toNat) ((⟨(⟨s1.v1, IntKind.wrap .i64 (s1.v1 + 1), IntKind.wrap .i64 ((IntKind.wrap .i64 (s1.v1 + 1)) + 1)⟩ : Tx), x1.range, x1.ex⟩ : Lock))).map eLock)])]).t) (st1 := mk 64 [(0, .one (.so [] 0 0 ((s1.w0_0).length))), (1, iV (IntKind.wrap .i64 ((IntKind.wrap .i64 ((IntKind.wrap .i64 (s1.v1 + 1)) + 1)) + 1))), (5, iV s1.v5)] [(0, [.sl 6 ((s1.w0_0.set ((s1.v5).toNat) ((⟨(⟨s1.v1, IntKind.wrap .i64 (s1.v1 + 1), IntKind.wrap .i64 ((IntKind.wrap .i64 (s1.v1 + 1)) + 1)⟩ : Tx), (⟨r1, x1.range.hi⟩ : Range), x1.ex⟩ : Lock))).map eLock)])]) [iC s1.v1, iC (IntKind.wrap .i64 (s1.v1 + 1)), iC (IntKind.wrap .i64 ((IntKind.wrap .i64 (s1.v1 + 1)) + 1)), sC x1.range.lo, sC x1.range.hi, bC x1.ex] [0, 1, 5] tyOK (by kernel_rfl) (by exact get_set_map (getI_lt ex1)) (Nat.le_of_ble_eq_true rfl) (by kernel_rfl) (by exact set_map_row rfl) (by kernel_rfl) ?_
        refine ao_nil ?_
        refine a_seq ?_
        refine a_run [0, 1, 5] tyOK (st1 := mk 64 [(0, .one (.so [] 0 0 ((s1.w0_0).length))), (1, iV (IntKind.wrap .i64 ((IntKind.wrap .i64 ((IntKind.wrap .i64 ((IntKind.wrap .i64 (s1.v1 + 1)) + 1)) + 1)) + 1))), (5, iV s1.v5)] [(0, [.sl 6 ((s1.w0_0.set ((s1.v5).toNat) ((⟨(⟨s1.v1, IntKind.wrap .i64 (s1.v1 + 1), IntKind.wrap .i64 ((IntKind.wrap .i64 (s1.v1 + 1)) + 1)⟩ : Tx), (⟨r1, x1.range.hi⟩ : Range), x1.ex⟩ : Lock))).map eLock)])]) (by kernel_rfl) ?_
        refine a_seq ?_
        refine a_ops [0, 1, 2, 3, 4, 5, 6, 7] (by kernel_rfl) ?_
        refine ao_some [0, 1, 2] [3, 4, 5, 6, 7] [0, 1, 5, 45, 46, 47] tyOK (st1 := mk 64 [(0, .one (.so [] 0 0 ((s1.w0_0).length))), (1, iV (IntKind.wrap .i64 ((IntKind.wrap .i64 ((IntKind.wrap .i64 ((IntKind.wrap .i64 (s1.v1 + 1)) + 1)) + 1)) + 1))), (5, iV s1.v5), (45, .one (.so [] 0 0 ((s1.w0_0).length))), (46, iV s1.v5), (47, iV (IntKind.wrap .i64 ((IntKind.wrap .i64 ((IntKind.wrap .i64 ((IntKind.wrap .i64 (s1.v1 + 1)) + 1)) + 1)) + 1)))] [(0, [.sl 6 ((s1.w0_0.set ((s1.v5).toNat) ((⟨(⟨s1.v1, IntKind.wrap .i64 (s1.v1 + 1), IntKind.wrap .i64 ((IntKind.wrap .i64 (s1.v1 + 1)) + 1)⟩ : Tx), (⟨r1, x1.range.hi⟩ : Range), x1.ex⟩ : Lock))).map eLock)])]) (by kernel_rfl) ?_
        obtain ⟨r2, er2, h⟩ := bnd_e h
        refine ao_enter (f := 79) (d := 48) (A := [iV (IntKind.wrap .i64 ((IntKind.wrap .i64 ((IntKind.wrap .i64 ((IntKind.wrap .i64 (s1.v1 + 1)) + 1)) + 1)) + 1))]) (st1 := mk 64 [(0, .one (.so [] 0 0 ((s1.w0_0).length))), (1, iV (IntKind.wrap .i64 ((IntKind.wrap .i64 ((IntKind.wrap .i64 ((IntKind.wrap .i64 (s1.v1 + 1)) + 1)) + 1)) + 1))), (5, iV s1.v5), (45, .one (.so [] 0 0 ((s1.w0_0).length))), (46, iV s1.v5), (48, sV r2)] [(0, [.sl 6 ((s1.w0_0.set ((s1.v5).toNat) ((⟨(⟨s1.v1, IntKind.wrap .i64 (s1.v1 + 1), IntKind.wrap .i64 ((IntKind.wrap .i64 (s1.v1 + 1)) + 1)⟩ : Tx), (⟨r1, x1.range.hi⟩ : Range), x1.ex⟩ : Lock))).map eLock)])]) [0, 1, 5, 45, 46, 48] (k_w_markText (IntKind.wrap .i64 ((IntKind.wrap .i64 ((IntKind.wrap .i64 ((IntKind.wrap .i64 (s1.v1 + 1)) + 1)) + 1)) + 1)) r2 er2) Try.call79 (by kernel_rfl) (by kernel_rfl) (by kernel_rfl) ?_
        refine ao_indexOwn (d := 49) (size := 6) (n0 := ((s1.w0_0).length)) (n := s1.v5) (p := [(0, 0)]) (rows := (s1.w0_0.set ((s1.v5).toNat) ((⟨(⟨s1.v1, IntKind.wrap .i64 (s1.v1 + 1), IntKind.wrap .i64 ((IntKind.wrap .i64 (s1.v1 + 1)) + 1)⟩ : Tx), (⟨r1, x1.range.hi⟩ : Range), x1.ex⟩ : Lock))).map eLock) (st1 := mk 64 [(0, .one (.so [] 0 0 ((s1.w0_0).length))), (1, iV (IntKind.wrap .i64 ((IntKind.wrap .i64 ((IntKind.wrap .i64 ((IntKind.wrap .i64 (s1.v1 + 1)) + 1)) + 1)) + 1))), (5, iV s1.v5), (48, sV r2), (49, .one (.pl [(0, 0)] ((s1.v5).toNat) 0))] [(0, [.sl 6 ((s1.w0_0.set ((s1.v5).toNat) ((⟨(⟨s1.v1, IntKind.wrap .i64 (s1.v1 + 1), IntKind.wrap .i64 ((IntKind.wrap .i64 (s1.v1 + 1)) + 1)⟩ : Tx), (⟨r1, x1.range.hi⟩ : Range), x1.ex⟩ : Lock))).map eLock)])]) [iC s1.v1, iC (IntKind.wrap .i64 (s1.v1 + 1)), iC (IntKind.wrap .i64 ((IntKind.wrap .i64 (s1.v1 + 1)) + 1)), sC r1, sC x1.range.hi, bC x1.ex] [0, 1, 5, 48, 49] tyOK (by kernel_rfl) (by simpa using getI_both ex1) (by exact get_set_map (getI_lt ex1)) (by kernel_rfl) (by kernel_rfl) ?_
        refine ao_some [5, 6] [7] [0, 1, 5, 48, 51] tyOK (st1 := mk 64 [(0, .one (.so [] 0 0 ((s1.w0_0).length))), (1, iV (IntKind.wrap .i64 ((IntKind.wrap .i64 ((IntKind.wrap .i64 ((IntKind.wrap .i64 (s1.v1 + 1)) + 1)) + 1)) + 1))), (5, iV s1.v5), (48, sV r2), (51, .one (.pl [(0, 0)] ((s1.v5).toNat) 4))] [(0, [.sl 6 ((s1.w0_0.set ((s1.v5).toNat) ((⟨(⟨s1.v1, IntKind.wrap .i64 (s1.v1 + 1), IntKind.wrap .i64 ((IntKind.wrap .i64 (s1.v1 + 1)) + 1)⟩ : Tx), (⟨r1, x1.range.hi⟩ : Range), x1.ex⟩ : Lock))).map eLock)])]) (by kernel_rfl) ?_
        refine ao_storeAt (n := ((s1.v5).toNat)) (f := 4) (q := [(0, 0)]) (rows := (s1.w0_0.set ((s1.v5).toNat) ((⟨(⟨s1.v1, IntKind.wrap .i64 (s1.v1 + 1), IntKind.wrap .i64 ((IntKind.wrap .i64 (s1.v1 + 1)) + 1)⟩ : Tx), (⟨r1, x1.range.hi⟩ : Range), x1.ex⟩ : Lock))).map eLock) (rows' := (s1.w0_0.set ((s1.v5).toNat) ((⟨(⟨s1.v1, IntKind.wrap .i64 (s1.v1 + 1), IntKind.wrap .i64 ((IntKind.wrap .i64 (s1.v1 + 1)) + 1)⟩ : Tx), (⟨r1, r2⟩ : Range), x1.ex⟩ : Lock))).map eLock) (szs := []) (ts := [.c (sC r2)]) (t1 := (mk 64 [(0, .one (.so [] 0 0 ((s1.w0_0).length))), (1, iV (IntKind.wrap .i64 ((IntKind.wrap .i64 ((IntKind.wrap .i64 ((IntKind.wrap .i64 (s1.v1 + 1)) + 1)) + 1)) + 1))), (5, iV s1.v5), (48, sV r2), (51, .one (.pl [(0, 0)] ((s1.v5).toNat) 4))] [(0, [.sl 6 ((s1.w0_0.set ((s1.v5).toNat) ((⟨(⟨s1.v1, IntKind.wrap .i64 (s1.v1 + 1), IntKind.wrap .i64 ((IntKind.wrap .i64 (s1.v1 + 1)) + 1)⟩ : Tx), (⟨r1, x1.range.hi⟩ : Range), x1.ex⟩ : Lock))).map eLock)])]).t) (st1 := mk 64 [(0, .one (.so [] 0 0 ((s1.w0_0).length))), (1, iV (IntKind.wrap .i64 ((IntKind.wrap .i64 ((IntKind.wrap .i64 ((IntKind.wrap .i64 (s1.v1 + 1)) + 1)) + 1)) + 1))), (5, iV s1.v5)] [(0, [.sl 6 ((s1.w0_0.set ((s1.v5).toNat) ((⟨(⟨s1.v1, IntKind.wrap .i64 (s1.v1 + 1), IntKind.wrap .i64 ((IntKind.wrap .i64 (s1.v1 + 1)) + 1)⟩ : Tx), (⟨r1, r2⟩ : Range), x1.ex⟩ : Lock))).map eLock)])]) [iC s1.v1, iC (IntKind.wrap .i64 (s1.v1 + 1)), iC (IntKind.wrap .i64 ((IntKind.wrap .i64 (s1.v1 + 1)) + 1)), sC r1, sC x1.range.hi, bC x1.ex] [0, 1, 5] tyOK (by kernel_rfl) (by exact get_set_map (getI_lt ex1)) (Nat.le_of_ble_eq_true rfl) (by kernel_rfl) (by exact set_map_row rfl) (by kernel_rfl) ?_
        refine ao_nil ?_
        refine a_seq ?_
        refine a_run [0, 1, 5] tyOK (st1 := mk 64 [(0, .one (.so [] 0 0 ((s1.w0_0).length))), (1, iV (IntKind.wrap .i64 ((IntKind.wrap .i64 ((IntKind.wrap .i64 ((IntKind.wrap .i64 ((IntKind.wrap .i64 (s1.v1 + 1)) + 1)) + 1)) + 1)) + 1))), (5, iV s1.v5)] [(0, [.sl 6 ((s1.w0_0.set ((s1.v5).toNat) ((⟨(⟨s1.v1, IntKind.wrap .i64 (s1.v1 + 1), IntKind.wrap .i64 ((IntKind.wrap .i64 (s1.v1 + 1)) + 1)⟩ : Tx), (⟨r1, r2⟩ : Range), x1.ex⟩ : Lock))).map eLock)])]) (by kernel_rfl) ?_
        refine a_seq ?_
        refine a_ops [0, 1, 2, 3, 4, 5, 6, 7] (by kernel_rfl) ?_
        refine ao_some [0, 1, 2, 3, 4] [5, 6, 7] [0, 1, 5, 54, 55, 58] tyOK (st1 := mk 64 [(0, .one (.so [] 0 0 ((s1.w0_0).length))), (1, iV (IntKind.wrap .i64 ((IntKind.wrap .i64 ((IntKind.wrap .i64 ((IntKind.wrap .i64 ((IntKind.wrap .i64 (s1.v1 + 1)) + 1)) + 1)) + 1)) + 1))), (5, iV s1.v5), (54, .one (.so [] 0 0 ((s1.w0_0).length))), (55, iV s1.v5), (58, bV (((Int.tmod (IntKind.wrap .i64 ((IntKind.wrap .i64 ((IntKind.wrap .i64 ((IntKind.wrap .i64 ((IntKind.wrap .i64 (s1.v1 + 1)) + 1)) + 1)) + 1)) + 1)) 3) == 0)))] [(0, [.sl 6 ((s1.w0_0.set ((s1.v5).toNat) ((⟨(⟨s1.v1, IntKind.wrap .i64 (s1.v1 + 1), IntKind.wrap .i64 ((IntKind.wrap .i64 (s1.v1 + 1)) + 1)⟩ : Tx), (⟨r1, r2⟩ : Range), x1.ex⟩ : Lock))).map eLock)])]) (by kernel_rfl) ?_
        refine ao_indexOwn (d := 59) (size := 6) (n0 := ((s1.w0_0).length)) (n := s1.v5) (p := [(0, 0)]) (rows := (s1.w0_0.set ((s1.v5).toNat) ((⟨(⟨s1.v1, IntKind.wrap .i64 (s1.v1 + 1), IntKind.wrap .i64 ((IntKind.wrap .i64 (s1.v1 + 1)) + 1)⟩ : Tx), (⟨r1, r2⟩ : Range), x1.ex⟩ : Lock))).map eLock) (st1 := mk 64 [(0, .one (.so [] 0 0 ((s1.w0_0).length))), (1, iV (IntKind.wrap .i64 ((IntKind.wrap .i64 ((IntKind.wrap .i64 ((IntKind.wrap .i64 ((IntKind.wrap .i64 (s1.v1 + 1)) + 1)) + 1)) + 1)) + 1))), (5, iV s1.v5), (58, bV (((Int.tmod (IntKind.wrap .i64 ((IntKind.wrap .i64 ((IntKind.wrap .i64 ((IntKind.wrap .i64 ((IntKind.wrap .i64 (s1.v1 + 1)) + 1)) + 1)) + 1)) + 1)) 3) == 0))), (59, .one (.pl [(0, 0)] ((s1.v5).toNat) 0))] [(0, [.sl 6 ((s1.w0_0.set ((s1.v5).toNat) ((⟨(⟨s1.v1, IntKind.wrap .i64 (s1.v1 + 1), IntKind.wrap .i64 ((IntKind.wrap .i64 (s1.v1 + 1)) + 1)⟩ : Tx), (⟨r1, r2⟩ : Range), x1.ex⟩ : Lock))).map eLock)])]) [iC s1.v1, iC (IntKind.wrap .i64 (s1.v1 + 1)), iC (IntKind.wrap .i64 ((IntKind.wrap .i64 (s1.v1 + 1)) + 1)), sC r1, sC r2, bC x1.ex] [0, 1, 5, 58, 59] tyOK (by kernel_rfl) (by simpa using getI_both ex1) (by exact get_set_map (getI_lt ex1)) (by kernel_rfl) (by kernel_rfl) ?_
        refine ao_some [6] [7] [0, 1, 5, 58, 60] tyOK (st1 := mk 64 [(0, .one (.so [] 0 0 ((s1.w0_0).length))), (1, iV (IntKind.wrap .i64 ((IntKind.wrap .i64 ((IntKind.wrap .i64 ((IntKind.wrap .i64 ((IntKind.wrap .i64 (s1.v1 + 1)) + 1)) + 1)) + 1)) + 1))), (5, iV s1.v5), (58, bV (((Int.tmod (IntKind.wrap .i64 ((IntKind.wrap .i64 ((IntKind.wrap .i64 ((IntKind.wrap .i64 ((IntKind.wrap .i64 (s1.v1 + 1)) + 1)) + 1)) + 1)) + 1)) 3) == 0))), (60, .one (.pl [(0, 0)] ((s1.v5).toNat) 5))] [(0, [.sl 6 ((s1.w0_0.set ((s1.v5).toNat) ((⟨(⟨s1.v1, IntKind.wrap .i64 (s1.v1 + 1), IntKind.wrap .i64 ((IntKind.wrap .i64 (s1.v1 + 1)) + 1)⟩ : Tx), (⟨r1, r2⟩ : Range), x1.ex⟩ : Lock))).map eLock)])]) (by kernel_rfl) ?_
        refine ao_storeAt (n := ((s1.v5).toNat)) (f := 5) (q := [(0, 0)]) (rows := (s1.w0_0.set ((s1.v5).toNat) ((⟨(⟨s1.v1, IntKind.wrap .i64 (s1.v1 + 1), IntKind.wrap .i64 ((IntKind.wrap .i64 (s1.v1 + 1)) + 1)⟩ : Tx), (⟨r1, r2⟩ : Range), x1.ex⟩ : Lock))).map eLock) (rows' := (s1.w0_0.set ((s1.v5).toNat) ((⟨(⟨s1.v1, IntKind.wrap .i64 (s1.v1 + 1), IntKind.wrap .i64 ((IntKind.wrap .i64 (s1.v1 + 1)) + 1)⟩ : Tx), (⟨r1, r2⟩ : Range), ((Int.tmod (IntKind.wrap .i64 ((IntKind.wrap .i64 ((IntKind.wrap .i64 ((IntKind.wrap .i64 ((IntKind.wrap .i64 (s1.v1 + 1)) + 1)) + 1)) + 1)) + 1)) 3) == 0)⟩ : Lock))).map eLock) (szs := []) (ts := [.c (bC (((Int.tmod (IntKind.wrap .i64 ((IntKind.wrap .i64 ((IntKind.wrap .i64 ((IntKind.wrap .i64 ((IntKind.wrap .i64 (s1.v1 + 1)) + 1)) + 1)) + 1)) + 1)) 3) == 0)))]) (t1 := (mk 64 [(0, .one (.so [] 0 0 ((s1.w0_0).length))), (1, iV (IntKind.wrap .i64 ((IntKind.wrap .i64 ((IntKind.wrap .i64 ((IntKind.wrap .i64 ((IntKind.wrap .i64 (s1.v1 + 1)) + 1)) + 1)) + 1)) + 1))), (5, iV s1.v5), (58, bV (((Int.tmod (IntKind.wrap .i64 ((IntKind.wrap .i64 ((IntKind.wrap .i64 ((IntKind.wrap .i64 ((IntKind.wrap .i64 (s1.v1 + 1)) + 1)) + 1)) + 1)) + 1)) 3) == 0))), (60, .one (.pl [(0, 0)] ((s1.v5).toNat) 5))] [(0, [.sl 6 ((s1.w0_0.set ((s1.v5).toNat) ((⟨(⟨s1.v1, IntKind.wrap .i64 (s1.v1 + 1), IntKind.wrap .i64 ((IntKind.wrap .i64 (s1.v1 + 1)) + 1)⟩ : Tx), (⟨r1, r2⟩ : Range), x1.ex⟩ : Lock))).map eLock)])]).t) (st1 := mk 64 [(0, .one (.so [] 0 0 ((s1.w0_0).length))), (1, iV (IntKind.wrap .i64 ((IntKind.wrap .i64 ((IntKind.wrap .i64 ((IntKind.wrap .i64 ((IntKind.wrap .i64 (s1.v1 + 1)) + 1)) + 1)) + 1)) + 1))), (5, iV s1.v5)] [(0, [.sl 6 ((s1.w0_0.set ((s1.v5).toNat) ((⟨(⟨s1.v1, IntKind.wrap .i64 (s1.v1 + 1), IntKind.wrap .i64 ((IntKind.wrap .i64 (s1.v1 + 1)) + 1)⟩ : Tx), (⟨r1, r2⟩ : Range), ((Int.tmod (IntKind.wrap .i64 ((IntKind.wrap .i64 ((IntKind.wrap .i64 ((IntKind.wrap .i64 ((IntKind.wrap .i64 (s1.v1 + 1)) + 1)) + 1)) + 1)) + 1)) 3) == 0)⟩ : Lock))).map eLock)])]) [iC s1.v1, iC (IntKind.wrap .i64 (s1.v1 + 1)), iC (IntKind.wrap .i64 ((IntKind.wrap .i64 (s1.v1 + 1)) + 1)), sC r1, sC r2, bC x1.ex] [0, 1, 5] tyOK (by kernel_rfl) (by exact get_set_map (getI_lt ex1)) (Nat.le_of_ble_eq_true rfl) (by kernel_rfl) (by exact set_map_row rfl) (by kernel_rfl) ?_
        refine ao_nil ?_
        refine a_run [0, 1, 5] tyOK (st1 := mk 64 [(0, .one (.so [] 0 0 ((s1.w0_0).length))), (1, iV (IntKind.wrap .i64 ((IntKind.wrap .i64 ((IntKind.wrap .i64 ((IntKind.wrap .i64 ((IntKind.wrap .i64 ((IntKind.wrap .i64 (s1.v1 + 1)) + 1)) + 1)) + 1)) + 1)) + 1))), (5, iV s1.v5)] [(0, [.sl 6 ((s1.w0_0.set ((s1.v5).toNat) ((⟨(⟨s1.v1, IntKind.wrap .i64 (s1.v1 + 1), IntKind.wrap .i64 ((IntKind.wrap .i64 (s1.v1 + 1)) + 1)⟩ : Tx), (⟨r1, r2⟩ : Range), ((Int.tmod (IntKind.wrap .i64 ((IntKind.wrap .i64 ((IntKind.wrap .i64 ((IntKind.wrap .i64 ((IntKind.wrap .i64 (s1.v1 + 1)) + 1)) + 1)) + 1)) + 1)) 3) == 0)⟩ : Lock))).map eLock)])]) (by kernel_rfl) ?_
        refine a_run [0, 1, 5] tyOK (st1 := mk 64 [(0, .one (.so [] 0 0 ((s1.w0_0).length))), (1, iV (IntKind.wrap .i64 ((IntKind.wrap .i64 ((IntKind.wrap .i64 ((IntKind.wrap .i64 ((IntKind.wrap .i64 ((IntKind.wrap .i64 (s1.v1 + 1)) + 1)) + 1)) + 1)) + 1)) + 1))), (5, iV (IntKind.wrap .i64 (s1.v5 + 1)))] [(0, [.sl 6 ((s1.w0_0.set ((s1.v5).toNat) ((⟨(⟨s1.v1, IntKind.wrap .i64 (s1.v1 + 1), IntKind.wrap .i64 ((IntKind.wrap .i64 (s1.v1 + 1)) + 1)⟩ : Tx), (⟨r1, r2⟩ : Range), ((Int.tmod (IntKind.wrap .i64 ((IntKind.wrap .i64 ((IntKind.wrap .i64 ((IntKind.wrap .i64 ((IntKind.wrap .i64 (s1.v1 + 1)) + 1)) + 1)) + 1)) + 1)) 3) == 0)⟩ : Lock))).map eLock)])]) (by kernel_rfl) ?_
        obtain rfl := Option.some.inj h
        show ∃ _, _ ∧ Imp _ _ _
        refine ⟨_, rfl, ?_⟩
        refine imp_says 0 (t := .one (.so [] 0 0 ((s1.w0_0).length))) (t' := .one (.so [] 0 0 ((s1.w0_0.set ((s1.v5).toNat) ((⟨(⟨s1.v1, IntKind.wrap .i64 (s1.v1 + 1), IntKind.wrap .i64 ((IntKind.wrap .i64 (s1.v1 + 1)) + 1)⟩ : Tx), (⟨r1, r2⟩ : Range), ((Int.tmod (IntKind.wrap .i64 ((IntKind.wrap .i64 ((IntKind.wrap .i64 ((IntKind.wrap .i64 ((IntKind.wrap .i64 (s1.v1 + 1)) + 1)) + 1)) + 1)) + 1)) 3) == 0)⟩ : Lock))).length))) [0, 1, 5] (s1 := mk 64 [(0, .one (.so [] 0 0 ((s1.w0_0.set ((s1.v5).toNat) ((⟨(⟨s1.v1, IntKind.wrap .i64 (s1.v1 + 1), IntKind.wrap .i64 ((IntKind.wrap .i64 (s1.v1 + 1)) + 1)⟩ : Tx), (⟨r1, r2⟩ : Range), ((Int.tmod (IntKind.wrap .i64 ((IntKind.wrap .i64 ((IntKind.wrap .i64 ((IntKind.wrap .i64 ((IntKind.wrap .i64 (s1.v1 + 1)) + 1)) + 1)) + 1)) + 1)) 3) == 0)⟩ : Lock))).length))), (1, iV (IntKind.wrap .i64 ((IntKind.wrap .i64 ((IntKind.wrap .i64 ((IntKind.wrap .i64 ((IntKind.wrap .i64 ((IntKind.wrap .i64 (s1.v1 + 1)) + 1)) + 1)) + 1)) + 1)) + 1))), (5, iV (IntKind.wrap .i64 (s1.v5 + 1)))] [(0, [.sl 6 ((s1.w0_0.set ((s1.v5).toNat) ((⟨(⟨s1.v1, IntKind.wrap .i64 (s1.v1 + 1), IntKind.wrap .i64 ((IntKind.wrap .i64 (s1.v1 + 1)) + 1)⟩ : Tx), (⟨r1, r2⟩ : Range), ((Int.tmod (IntKind.wrap .i64 ((IntKind.wrap .i64 ((IntKind.wrap .i64 ((IntKind.wrap .i64 ((IntKind.wrap .i64 (s1.v1 + 1)) + 1)) + 1)) + 1)) + 1)) 3) == 0)⟩ : Lock))).map eLock)])]) (by kernel_rfl) (by simp) (by kernel_rfl) ?_
        exact imp_keepTo [0, 1, 5] (by kernel_rfl) (imp_done rfl)
      · replace h := cF h1 h
        refine a_exit ?_
        obtain rfl := Option.some.inj h
        obtain rfl := zy2 _ rfl
        show ∃ _, _ ∧ Imp _ _ _
        refine ⟨_, rfl, ?_⟩
        exact imp_keepTo [0, 1] (by kernel_rfl) (imp_done rfl)
    intro j1 hj1
    replace h := ky1 _ hj1
    refine a_seq ?_
    refine a_run [0, 4] tyOK (st1 := mk 64 [(0, .one (.so [] 0 0 ((j1.w0_0).length))), (4, iV j1.v1)] [(0, [.sl 6 ((j1.w0_0).map eLock)])]) (by kernel_rfl) ?_
    refine a_ret ?_
    obtain rfl := Option.some.inj h
    exact end_g (ob := []) (outs' := [.sl 6 ((j1.w0_0).map eLock)]) (res' := iV j1.v1) (row' := []) (by kernel_rfl) trivial (by first | rfl | simp) (by first | rfl | simp) (by first | rfl | simp)

noncomputable def w_markLocks (p0 : Locks) (p1 : Int) : Option (Locks × Int) :=
 bnd (w_markLockS p0.held p1) fun r1 =>
 chk ((r1.1).length = (p0.held).length) <|
 bnd (w_markLockS p0.wait r1.2) fun r2 =>
 chk ((r2.1).length = (p0.wait).length) <|
 some (((⟨r1.1, r2.1⟩ : Locks), r2.2))
set_option maxHeartbeats 4000000 in
/-- laws.markLocks -/
theorem k_w_markLocks (p0 : Locks) (p1 : Int) (v : Locks × Int) (h : w_markLocks p0 p1 = some v) : CallG Try.prog 34 [.sl 6 ((p0.held).map eLock), .sl 6 ((p0.wait).map eLock)] [.agg [.so [] 0 0 ((p0.held).length), .so [] 0 1 ((p0.wait).length)], iV p1] [.sl 6 ((v.1.held).map eLock), .sl 6 ((v.1.wait).map eLock)] (iV v.2) [] :=
  callG tyOK Try.func34 rfl (by simp) fun w S γ hS => by
    unfold w_markLocks at h
    refine a_seq ?_
    refine a_ops [0, 1] (by kernel_rfl) ?_
    refine ao_boxV (Ty := Ty) (d := 2) (k := 0) (l := [.so [] 0 0 ((p0.held).length), .so [] 0 1 ((p0.wait).length)]) (l' := [.c (.v (hdrV (γ [(0, 0)]) ((p0.held).length))), .c (.v (hdrV (γ [(0, 1)]) ((p0.wait).length)))]) (szs := [6, 6]) (st1 := mk 14 [(0, .agg [.so [] 0 0 ((p0.held).length), .so [] 0 1 ((p0.wait).length)]), (1, iV p1), (2, .one (.pl [(2, 0)] 0 0))] [(0, [.sl 6 ((p0.held).map eLock), .sl 6 ((p0.wait).map eLock)]), (2, [.bx [.v (hdrV (γ [(0, 0)]) ((p0.held).length)), .v (hdrV (γ [(0, 1)]) ((p0.wait).length))]])]) [0, 1, 2] (by kernel_rfl) ⟨Nat.zero_lt_one, ⟨6, (p0.held).map eLock, by kernel_rfl, by simp⟩, ⟨Nat.zero_lt_one, ⟨6, (p0.wait).map eLock, by kernel_rfl, by simp⟩, trivial⟩⟩ (by kernel_rfl) (by decide) (by kernel_rfl) ?_
    refine ao_some [1] [] [0, 1, 2] tyOK (st1 := mk 14 [(0, .agg [.so [] 0 0 ((p0.held).length), .so [] 0 1 ((p0.wait).length)]), (1, iV p1), (2, .one (.pl [(2, 0)] 0 0))] [(0, [.sl 6 ((p0.held).map eLock), .sl 6 ((p0.wait).map eLock)]), (2, [.bx [.v (hdrV (γ [(0, 0)]) ((p0.held).length)), .v (hdrV (γ [(0, 1)]) ((p0.wait).length))]])]) (by kernel_rfl) ?_
    refine ao_nil ?_
    refine a_seq ?_
    refine a_ops [0, 1, 2, 3, 4] (by kernel_rfl) ?_
    refine ao_some [0, 1, 2] [3, 4] [0, 2, 6, 7] tyOK (st1 := mk 14 [(0, .agg [.so [] 0 0 ((p0.held).length), .so [] 0 1 ((p0.wait).length)]), (2, .one (.pl [(2, 0)] 0 0)), (6, .one (.c (.v (hdrV (γ [(0, 0)]) ((p0.held).length))))), (7, iV p1)] [(0, [.sl 6 ((p0.held).map eLock), .sl 6 ((p0.wait).map eLock)]), (2, [.bx [.v (hdrV (γ [(0, 0)]) ((p0.held).length)), .v (hdrV (γ [(0, 1)]) ((p0.wait).length))]])]) (by kernel_rfl) ?_
    refine ao_tell (k := 0) (t := .agg [.so [] 0 0 ((p0.held).length), .so [] 0 1 ((p0.wait).length)]) (t' := .agg [.c (.v (hdrV (γ [(0, 0)]) ((p0.held).length))), .c (.v (hdrV (γ [(0, 1)]) ((p0.wait).length)))]) (st1 := mk 14 [(0, .agg [.c (.v (hdrV (γ [(0, 0)]) ((p0.held).length))), .c (.v (hdrV (γ [(0, 1)]) ((p0.wait).length)))]), (2, .one (.pl [(2, 0)] 0 0)), (6, .one (.c (.v (hdrV (γ [(0, 0)]) ((p0.held).length))))), (7, iV p1)] [(0, [.sl 6 ((p0.held).map eLock), .sl 6 ((p0.wait).map eLock)]), (2, [.bx [.v (hdrV (γ [(0, 0)]) ((p0.held).length)), .v (hdrV (γ [(0, 1)]) ((p0.wait).length))]])]) (by kernel_rfl) (.agg (.cons (.toV (sz := 6) (rows := (p0.held).map eLock) Nat.zero_lt_one (by kernel_rfl)) (.cons (.toV (sz := 6) (rows := (p0.wait).map eLock) Nat.zero_lt_one (by kernel_rfl)) .nil))) (by kernel_rfl) ?_
    refine ao_tell (k := 6) (t := .one (.c (.v (hdrV (γ [(0, 0)]) ((p0.held).length))))) (t' := .one (.so [] 0 0 ((p0.held).length))) (st1 := mk 14 [(0, .agg [.c (.v (hdrV (γ [(0, 0)]) ((p0.held).length))), .c (.v (hdrV (γ [(0, 1)]) ((p0.wait).length)))]), (2, .one (.pl [(2, 0)] 0 0)), (6, .one (.so [] 0 0 ((p0.held).length))), (7, iV p1)] [(0, [.sl 6 ((p0.held).map eLock), .sl 6 ((p0.wait).map eLock)]), (2, [.bx [.v (hdrV (γ [(0, 0)]) ((p0.held).length)), .v (hdrV (γ [(0, 1)]) ((p0.wait).length))]])]) (by kernel_rfl) (.one (.ofV (sz := 6) (rows := (p0.held).map eLock) Nat.zero_lt_one (by kernel_rfl) (by simp [*]))) (by kernel_rfl) ?_
    obtain ⟨r1, er1, h⟩ := bnd_e h
    obtain ⟨c1, h⟩ := chk_e h
    refine ao_g2 (g := 72) (d := 8) (A := [.one (.so [] 0 0 ((p0.held).length)), iV p1]) (A' := [.one (.so [] 0 0 ((p0.held).length)), iV p1]) (cs := [.sl 6 ((p0.held).map eLock)]) (outs := [.sl 6 ((r1.1).map eLock)]) (ps := [[(0, 0)]]) (st1 := mk 14 [(0, .agg [.c (.v (hdrV (γ [(0, 0)]) ((p0.held).length))), .c (.v (hdrV (γ [(0, 1)]) ((p0.wait).length)))]), (2, .one (.pl [(2, 0)] 0 0)), (6, .one (.so [] 0 0 ((p0.held).length))), (7, iV p1), (8, iV r1.2)] [(0, [.sl 6 ((r1.1).map eLock), .sl 6 ((p0.wait).map eLock)]), (2, [.bx [.v (hdrV (γ [(0, 0)]) ((p0.held).length)), .v (hdrV (γ [(0, 1)]) ((p0.wait).length))]])]) [0, 2, 6, 7, 8] (k_w_markLockS p0.held p1 r1 er1) Try.call72 (by kernel_rfl) (.cons (.one (.so 0 rfl)) (.cons (.one (.same rfl)) .nil)) (handedN_of (szs := [6]) (by kernel_rfl)) (by kernel_rfl) (.sl (by simpa using c1) .nil) (wholeFIO _ _ _ _) (by kernel_rfl) (by kernel_rfl) ?_
    refine ao_tell (k := 0) (t := .agg [.c (.v (hdrV (γ [(0, 0)]) ((p0.held).length))), .c (.v (hdrV (γ [(0, 1)]) ((p0.wait).length)))]) (t' := .agg [.so [] 0 0 ((p0.held).length), .so [] 0 1 ((p0.wait).length)]) (st1 := mk 14 [(0, .agg [.so [] 0 0 ((p0.held).length), .so [] 0 1 ((p0.wait).length)]), (2, .one (.pl [(2, 0)] 0 0)), (6, .one (.so [] 0 0 ((p0.held).length))), (7, iV p1), (8, iV r1.2)] [(0, [.sl 6 ((r1.1).map eLock), .sl 6 ((p0.wait).map eLock)]), (2, [.bx [.v (hdrV (γ [(0, 0)]) ((p0.held).length)), .v (hdrV (γ [(0, 1)]) ((p0.wait).length))]])]) (by kernel_rfl) (.agg (.cons (.ofV (sz := 6) (rows := (r1.1).map eLock) Nat.zero_lt_one (by kernel_rfl) (by simp [*])) (.cons (.ofV (sz := 6) (rows := (p0.wait).map eLock) Nat.zero_lt_one (by kernel_rfl) (by simp [*])) .nil))) (by kernel_rfl) ?_
    refine ao_keepTo [0, 2, 8] (st1 := mk 14 [(0, .agg [.so [] 0 0 ((p0.held).length), .so [] 0 1 ((p0.wait).length)]), (2, .one (.pl [(2, 0)] 0 0)), (8, iV r1.2)] [(0, [.sl 6 ((r1.1).map eLock), .sl 6 ((p0.wait).map eLock)]), (2, [.bx [.v (hdrV (γ [(0, 0)]) ((p0.held).length)), .v (hdrV (γ [(0, 1)]) ((p0.wait).length))]])]) (by kernel_rfl) ?_
    refine ao_some [4] [] [0, 1, 2] tyOK (st1 := mk 14 [(0, .agg [.so [] 0 0 ((p0.held).length), .so [] 0 1 ((p0.wait).length)]), (1, iV r1.2), (2, .one (.pl [(2, 0)] 0 0))] [(0, [.sl 6 ((r1.1).map eLock), .sl 6 ((p0.wait).map eLock)]), (2, [.bx [.v (hdrV (γ [(0, 0)]) ((p0.held).length)), .v (hdrV (γ [(0, 1)]) ((p0.wait).length))]])]) (by kernel_rfl) ?_
    refine ao_nil ?_
    refine a_seq ?_
    refine a_ops [0, 1, 2, 3, 4] (by kernel_rfl) ?_
    refine ao_some [0, 1, 2] [3, 4] [0, 10, 11] tyOK (st1 := mk 14 [(0, .agg [.so [] 0 0 ((p0.held).length), .so [] 0 1 ((p0.wait).length)]), (10, .one (.c (.v (hdrV (γ [(0, 1)]) ((p0.wait).length))))), (11, iV r1.2)] [(0, [.sl 6 ((r1.1).map eLock), .sl 6 ((p0.wait).map eLock)])]) (by kernel_rfl) ?_
    refine ao_tell (k := 0) (t := .agg [.so [] 0 0 ((p0.held).length), .so [] 0 1 ((p0.wait).length)]) (t' := .agg [.c (.v (hdrV (γ [(0, 0)]) ((p0.held).length))), .c (.v (hdrV (γ [(0, 1)]) ((p0.wait).length)))]) (st1 := mk 14 [(0, .agg [.c (.v (hdrV (γ [(0, 0)]) ((p0.held).length))), .c (.v (hdrV (γ [(0, 1)]) ((p0.wait).length)))]), (10, .one (.c (.v (hdrV (γ [(0, 1)]) ((p0.wait).length))))), (11, iV r1.2)] [(0, [.sl 6 ((r1.1).map eLock), .sl 6 ((p0.wait).map eLock)])]) (by kernel_rfl) (.agg (.cons (.toV (sz := 6) (rows := (r1.1).map eLock) Nat.zero_lt_one (by kernel_rfl)) (.cons (.toV (sz := 6) (rows := (p0.wait).map eLock) Nat.zero_lt_one (by kernel_rfl)) .nil))) (by kernel_rfl) ?_
    refine ao_tell (k := 10) (t := .one (.c (.v (hdrV (γ [(0, 1)]) ((p0.wait).length))))) (t' := .one (.so [] 0 1 ((p0.wait).length))) (st1 := mk 14 [(0, .agg [.c (.v (hdrV (γ [(0, 0)]) ((p0.held).length))), .c (.v (hdrV (γ [(0, 1)]) ((p0.wait).length)))]), (10, .one (.so [] 0 1 ((p0.wait).length))), (11, iV r1.2)] [(0, [.sl 6 ((r1.1).map eLock), .sl 6 ((p0.wait).map eLock)])]) (by kernel_rfl) (.one (.ofV (sz := 6) (rows := (p0.wait).map eLock) Nat.zero_lt_one (by kernel_rfl) (by simp [*]))) (by kernel_rfl) ?_
    obtain ⟨r2, er2, h⟩ := bnd_e h
    obtain ⟨c2, h⟩ := chk_e h
    refine ao_g2 (g := 72) (d := 12) (A := [.one (.so [] 0 1 ((p0.wait).length)), iV r1.2]) (A' := [.one (.so [] 0 0 ((p0.wait).length)), iV r1.2]) (cs := [.sl 6 ((p0.wait).map eLock)]) (outs := [.sl 6 ((r2.1).map eLock)]) (ps := [[(0, 1)]]) (st1 := mk 14 [(0, .agg [.c (.v (hdrV (γ [(0, 0)]) ((p0.held).length))), .c (.v (hdrV (γ [(0, 1)]) ((p0.wait).length)))]), (10, .one (.so [] 0 1 ((p0.wait).length))), (11, iV r1.2), (12, iV r2.2)] [(0, [.sl 6 ((r1.1).map eLock), .sl 6 ((r2.1).map eLock)])]) [0, 10, 11, 12] (k_w_markLockS p0.wait r1.2 r2 er2) Try.call72 (by kernel_rfl) (.cons (.one (.so 0 rfl)) (.cons (.one (.same rfl)) .nil)) (handedN_of (szs := [6]) (by kernel_rfl)) (by kernel_rfl) (.sl (by simpa using c2) .nil) (wholeFIO _ _ _ _) (by kernel_rfl) (by kernel_rfl) ?_
    refine ao_tell (k := 0) (t := .agg [.c (.v (hdrV (γ [(0, 0)]) ((p0.held).length))), .c (.v (hdrV (γ [(0, 1)]) ((p0.wait).length)))]) (t' := .agg [.so [] 0 0 ((p0.held).length), .so [] 0 1 ((p0.wait).length)]) (st1 := mk 14 [(0, .agg [.so [] 0 0 ((p0.held).length), .so [] 0 1 ((p0.wait).length)]), (10, .one (.so [] 0 1 ((p0.wait).length))), (11, iV r1.2), (12, iV r2.2)] [(0, [.sl 6 ((r1.1).map eLock), .sl 6 ((r2.1).map eLock)])]) (by kernel_rfl) (.agg (.cons (.ofV (sz := 6) (rows := (r1.1).map eLock) Nat.zero_lt_one (by kernel_rfl) (by simp [*])) (.cons (.ofV (sz := 6) (rows := (r2.1).map eLock) Nat.zero_lt_one (by kernel_rfl) (by simp [*])) .nil))) (by kernel_rfl) ?_
    refine ao_keepTo [0, 12] (st1 := mk 14 [(0, .agg [.so [] 0 0 ((p0.held).length), .so [] 0 1 ((p0.wait).length)]), (12, iV r2.2)] [(0, [.sl 6 ((r1.1).map eLock), .sl 6 ((r2.1).map eLock)])]) (by kernel_rfl) ?_
    refine ao_some [4] [] [0, 1] tyOK (st1 := mk 14 [(0, .agg [.so [] 0 0 ((p0.held).length), .so [] 0 1 ((p0.wait).length)]), (1, iV r2.2)] [(0, [.sl 6 ((r1.1).map eLock), .sl 6 ((r2.1).map eLock)])]) (by kernel_rfl) ?_
    refine ao_nil ?_
    refine a_seq ?_
    refine a_run [0, 4] tyOK (st1 := mk 14 [(0, .agg [.so [] 0 0 ((p0.held).length), .so [] 0 1 ((p0.wait).length)]), (4, iV r2.2)] [(0, [.sl 6 ((r1.1).map eLock), .sl 6 ((r2.1).map eLock)])]) (by kernel_rfl) ?_
    refine a_ret ?_
    obtain rfl := Option.some.inj h
    exact end_g (ob := []) (outs' := [.sl 6 ((r1.1).map eLock), .sl 6 ((r2.1).map eLock)]) (res' := iV r2.2) (row' := []) (by kernel_rfl) trivial (by first | rfl | simp) (by first | rfl | simp) (by first | rfl | simp)

structure Sw_heldLockS_1 where
  v1 : Int
  v5 : Int

noncomputable def Bw_heldLockS_1 (p0 : (List Lock)) (s1 : Sw_heldLockS_1) : Option (Sw_heldLockS_1 ⊕ (Int ⊕ (Int))) :=
 bif (decide (s1.v5 < (((((p0).map eLock).length : Nat) : Int)))) then
 (bnd (getI p0 s1.v5) fun x1 =>
 bif ((x1.tx.c != s1.v1)) then
 (some (.inr (.inr (-1))))
 else
 (bnd (getI p0 s1.v5) fun x2 =>
 bif ((x2.tx.e != (IntKind.wrap .i64 (s1.v1 + 1)))) then
 (some (.inr (.inr (-1))))
 else
 (bnd (getI p0 s1.v5) fun x3 =>
 bif ((x3.tx.n != (IntKind.wrap .i64 ((IntKind.wrap .i64 (s1.v1 + 1)) + 1)))) then
 (some (.inr (.inr (-1))))
 else
 (bnd (getI p0 s1.v5) fun x4 =>
 bnd (w_markText (IntKind.wrap .i64 ((IntKind.wrap .i64 ((IntKind.wrap .i64 (s1.v1 + 1)) + 1)) + 1))) fun r1 =>
 bif (!(x4.range.lo.toList == r1.toList)) then
 (some (.inr (.inr (-1))))
 else
 (bnd (getI p0 s1.v5) fun x5 =>
 bnd (w_markText (IntKind.wrap .i64 ((IntKind.wrap .i64 ((IntKind.wrap .i64 ((IntKind.wrap .i64 (s1.v1 + 1)) + 1)) + 1)) + 1))) fun r2 =>
 bif (!(x5.range.hi.toList == r2.toList)) then
 (some (.inr (.inr (-1))))
 else
 (bnd (getI p0 s1.v5) fun x6 =>
 bif (!(x6.ex == (((Int.tmod (IntKind.wrap .i64 ((IntKind.wrap .i64 ((IntKind.wrap .i64 ((IntKind.wrap .i64 ((IntKind.wrap .i64 (s1.v1 + 1)) + 1)) + 1)) + 1)) + 1)) 3) == 0)))) then
 (some (.inr (.inr (-1))))
 else
 (some (.inl ((⟨IntKind.wrap .i64 ((IntKind.wrap .i64 ((IntKind.wrap .i64 ((IntKind.wrap .i64 ((IntKind.wrap .i64 ((IntKind.wrap .i64 (s1.v1 + 1)) + 1)) + 1)) + 1)) + 1)) + 1), IntKind.wrap .i64 (s1.v5 + 1)⟩ : Sw_heldLockS_1))))))))))
 else
 (some (.inr (.inl s1.v1)))

noncomputable def w_heldLockS (p0 : (List Lock)) (p1 : Int) : Option (Int) :=
 bndS (loopT (Bw_heldLockS_1 p0) ((⟨p1, 0⟩ : Sw_heldLockS_1))) fun j1 =>
 some j1
set_option maxHeartbeats 4000000 in
/-- laws.heldLockS -/
theorem k_w_heldLockS (p0 : (List Lock)) (p1 : Int) (v : Int) (h : w_heldLockS p0 p1 = some v) : CallOK Try.prog 73 [.one (.c (.sl 6 ((p0).map eLock))), iV p1] (iV v) [] :=
  callOK tyOK Try.func73 rfl fun w S hS => by
    unfold w_heldLockS at h
    refine a_seq ?_
    refine a_run [0, 1] tyOK (st1 := mk 76 [(0, .one (.c (.sl 6 ((p0).map eLock)))), (1, iV p1)] []) (by kernel_rfl) ?_
    refine a_seq ?_
    refine a_seq ?_
    refine a_run [0, 1, 5] tyOK (st1 := mk 76 [(0, .one (.c (.sl 6 ((p0).map eLock)))), (1, iV p1), (5, iV 0)] []) (by kernel_rfl) ?_
    obtain ⟨y1, h, ky1, zy1⟩ := bndS_e h
    refine a_joinT (ι := Int) (fun j => mk 76 [(1, iV j)] []) (fun j => y1 = .inl j) ?_ ?_
    · refine a_block ?_
      refine a_loopT (Bw_heldLockS_1 p0) (fun s1 => mk 76 [(0, .one (.c (.sl 6 ((p0).map eLock)))), (1, iV s1.v1), (5, iV s1.v5)] []) ((⟨p1, 0⟩ : Sw_heldLockS_1)) h ?_ ?_
      · exact imp_keepTo [0, 1, 5] (by kernel_rfl) (imp_done rfl)
      intro s1 y2 h zy2
      unfold Bw_heldLockS_1 at h
      refine a_seq ?_
      refine a_seq ?_
      refine a_run [0, 1, 5, 9] tyOK (st1 := mk 76 [(0, .one (.c (.sl 6 ((p0).map eLock)))), (1, iV s1.v1), (5, iV s1.v5), (9, bV (decide (s1.v5 < (((((p0).map eLock).length : Nat) : Int)))))] []) (by kernel_rfl) ?_
      refine a_cond (b := decide (s1.v5 < (((((p0).map eLock).length : Nat) : Int)))) (by kernel_rfl) (fun h1 => ?_) (fun h1 => ?_)
      · replace h := cT h1 h
        refine a_skip ?_
        refine a_seq ?_
        refine a_block ?_
        refine a_seq ?_
        refine a_seq ?_
        refine a_ops [0, 1, 2, 3, 4, 5, 6, 7] (by kernel_rfl) ?_
        refine ao_some [0, 1] [2, 3, 4, 5, 6, 7] [0, 1, 5, 12, 13] tyOK (st1 := mk 76 [(0, .one (.c (.sl 6 ((p0).map eLock)))), (1, iV s1.v1), (5, iV s1.v5), (12, .one (.c (.sl 6 ((p0).map eLock)))), (13, iV s1.v5)] []) (by kernel_rfl) ?_
        obtain ⟨x1, ex1, h⟩ := bnd_e h
        refine ao_index (d := 14) (size := 6) (n := s1.v5) (rows := (p0).map eLock) (st1 := mk 76 [(0, .one (.c (.sl 6 ((p0).map eLock)))), (1, iV s1.v1), (5, iV s1.v5), (14, .one (.fp [iC x1.tx.c, iC x1.tx.e, iC x1.tx.n, sC x1.range.lo, sC x1.range.hi, bC x1.ex] 0))] []) (eLock x1) [0, 1, 5, 14] tyOK (by kernel_rfl) (getI_e ex1).1 (show ((p0).map eLock)[_]? = some _ from by rw [List.getElem?_map, (getI_e ex1).2]; rfl) (by kernel_rfl) (by kernel_rfl) ?_
        refine ao_some [3, 4, 5, 6, 7] [] [0, 1, 5, 19] tyOK (st1 := mk 76 [(0, .one (.c (.sl 6 ((p0).map eLock)))), (1, iV s1.v1), (5, iV s1.v5), (19, bV ((x1.tx.c != s1.v1)))] []) (by kernel_rfl) ?_
        refine ao_nil ?_
        refine a_cond (b := (x1.tx.c != s1.v1)) (by kernel_rfl) (fun h2 => ?_) (fun h2 => ?_)
        · replace h := cT h2 h
          refine a_seq ?_
          refine a_run [4] tyOK (st1 := mk 76 [(4, iV (-1))] []) (by kernel_rfl) ?_
          refine a_ret ?_
          obtain rfl := Option.some.inj h
          obtain rfl := zy2 _ rfl
          obtain rfl := zy1 _ rfl
          exact end_eq (res' := iV (-1)) (by kernel_rfl) (by first | rfl | simp)
        · replace h := cF h2 h
          refine a_skip ?_
          refine a_seq ?_
          refine a_run [0, 1, 5] tyOK (st1 := mk 76 [(0, .one (.c (.sl 6 ((p0).map eLock)))), (1, iV (IntKind.wrap .i64 (s1.v1 + 1))), (5, iV s1.v5)] []) (by kernel_rfl) ?_
          refine a_seq ?_
          refine a_seq ?_
          refine a_ops [0, 1, 2, 3, 4, 5, 6, 7] (by kernel_rfl) ?_
          refine ao_some [0, 1] [2, 3, 4, 5, 6, 7] [0, 1, 5, 22, 23] tyOK (st1 := mk 76 [(0, .one (.c (.sl 6 ((p0).map eLock)))), (1, iV (IntKind.wrap .i64 (s1.v1 + 1))), (5, iV s1.v5), (22, .one (.c (.sl 6 ((p0).map eLock)))), (23, iV s1.v5)] []) (by kernel_rfl) ?_
          obtain ⟨x2, ex2, h⟩ := bnd_e h
          refine ao_index (d := 24) (size := 6) (n := s1.v5) (rows := (p0).map eLock) (st1 := mk 76 [(0, .one (.c (.sl 6 ((p0).map eLock)))), (1, iV (IntKind.wrap .i64 (s1.v1 + 1))), (5, iV s1.v5), (24, .one (.fp [iC x2.tx.c, iC x2.tx.e, iC x2.tx.n, sC x2.range.lo, sC x2.range.hi, bC x2.ex] 0))] []) (eLock x2) [0, 1, 5, 24] tyOK (by kernel_rfl) (getI_e ex2).1 (show ((p0).map eLock)[_]? = some _ from by rw [List.getElem?_map, (getI_e ex2).2]; rfl) (by kernel_rfl) (by kernel_rfl) ?_
          refine ao_some [3, 4, 5, 6, 7] [] [0, 1, 5, 29] tyOK (st1 := mk 76 [(0, .one (.c (.sl 6 ((p0).map eLock)))), (1, iV (IntKind.wrap .i64 (s1.v1 + 1))), (5, iV s1.v5), (29, bV ((x2.tx.e != (IntKind.wrap .i64 (s1.v1 + 1)))))] []) (by kernel_rfl) ?_
          refine ao_nil ?_
          refine a_cond (b := (x2.tx.e != (IntKind.wrap .i64 (s1.v1 + 1)))) (by kernel_rfl) (fun h3 => ?_) (fun h3 => ?_)
          · replace h := cT h3 h
            refine a_seq ?_
            refine a_run [4] tyOK (st1 := mk 76 [(4, iV (-1))] []) (by kernel_rfl) ?_
            refine a_ret ?_
            obtain rfl := Option.some.inj h
            obtain rfl := zy2 _ rfl
            obtain rfl := zy1 _ rfl
            exact end_eq (res' := iV (-1)) (by kernel_rfl) (by first | rfl | simp)
          · replace h := cF h3 h
            refine a_skip ?_
            refine a_seq ?_
            refine a_run [0, 1, 5] tyOK (st1 := mk 76 [(0, .one (.c (.sl 6 ((p0).map eLock)))), (1, iV (IntKind.wrap .i64 ((IntKind.wrap .i64 (s1.v1 + 1)) + 1))), (5, iV s1.v5)] []) (by kernel_rfl) ?_
            refine a_seq ?_
            refine a_seq ?_
            refine a_ops [0, 1, 2, 3, 4, 5, 6, 7] (by kernel_rfl) ?_
            refine ao_some [0, 1] [2, 3, 4, 5, 6, 7] [0, 1, 5, 32, 33] tyOK (st1 := mk 76 [(0, .one (.c (.sl 6 ((p0).map eLock)))), (1, iV (IntKind.wrap .i64 ((IntKind.wrap .i64 (s1.v1 + 1)) + 1))), (5, iV s1.v5), (32, .one (.c (.sl 6 ((p0).map eLock)))), (33, iV s1.v5)] []) (by kernel_rfl) ?_
            obtain ⟨x3, ex3, h⟩ := bnd_e h
            refine ao_index (d := 34) (size := 6) (n := s1.v5) (rows := (p0).map eLock) (st1 := mk 76 [(0, .one (.c (.sl 6 ((p0).map eLock)))), (1, iV (IntKind.wrap .i64 ((IntKind.wrap .i64 (s1.v1 + 1)) + 1))), (5, iV s1.v5), (34, .one (.fp [iC x3.tx.c, iC x3.tx.e, iC x3.tx.n, sC x3.range.lo, sC x3.range.hi, bC x3.ex] 0))] []) (eLock x3) [0, 1, 5, 34] tyOK (by kernel_rfl) (getI_e ex3).1 (show ((p0).map eLock)[_]? = some _ from by rw [List.getElem?_map, (getI_e ex3).2]; rfl) (by kernel_rfl) (by kernel_rfl) ?_
            refine ao_some [3, 4, 5, 6, 7] [] [0, 1, 5, 39] tyOK (st1 := mk 76 [(0, .one (.c (.sl 6 ((p0).map eLock)))), (1, iV (IntKind.wrap .i64 ((IntKind.wrap .i64 (s1.v1 + 1)) + 1))), (5, iV s1.v5), (39, bV ((x3.tx.n != (IntKind.wrap .i64 ((IntKind.wrap .i64 (s1.v1 + 1)) + 1)))))] []) (by kernel_rfl) ?_
            refine ao_nil ?_
            refine a_cond (b := (x3.tx.n != (IntKind.wrap .i64 ((IntKind.wrap .i64 (s1.v1 + 1)) + 1)))) (by kernel_rfl) (fun h4 => ?_) (fun h4 => ?_)
            · replace h := cT h4 h
              refine a_seq ?_
              refine a_run [4] tyOK (st1 := mk 76 [(4, iV (-1))] []) (by kernel_rfl) ?_
              refine a_ret ?_
              obtain rfl := Option.some.inj h
              obtain rfl := zy2 _ rfl
              obtain rfl := zy1 _ rfl
              exact end_eq (res' := iV (-1)) (by kernel_rfl) (by first | rfl | simp)
            · replace h := cF h4 h
              refine a_skip ?_
              refine a_seq ?_
              refine a_run [0, 1, 5] tyOK (st1 := mk 76 [(0, .one (.c (.sl 6 ((p0).map eLock)))), (1, iV (IntKind.wrap .i64 ((IntKind.wrap .i64 ((IntKind.wrap .i64 (s1.v1 + 1)) + 1)) + 1))), (5, iV s1.v5)] []) (by kernel_rfl) ?_
              refine a_seq ?_
              refine a_seq ?_
              obtain ⟨x4, ex4, h⟩ := bnd_e h
              obtain ⟨r1, er1, h⟩ := bnd_e h
              refine a_mid (mk 76 [(0, .one (.c (.sl 6 ((p0).map eLock)))), (1, iV (IntKind.wrap .i64 ((IntKind.wrap .i64 ((IntKind.wrap .i64 (s1.v1 + 1)) + 1)) + 1))), (5, iV s1.v5), (50, bV (!(x4.range.lo.toList == r1.toList)))] []) ?_ ?_
              · refine a_drawn (n := 9) [] (by kernel_rfl) (by kernel_rfl) ?_
                refine aa_take (fuel := 6) (listed' := #[true, true, false, false, false, false, true, false, false]) (st' := mk 76 [(0, .one (.c (.sl 6 ((p0).map eLock)))), (1, iV (IntKind.wrap .i64 ((IntKind.wrap .i64 ((IntKind.wrap .i64 (s1.v1 + 1)) + 1)) + 1))), (5, iV s1.v5), (42, .one (.c (.sl 6 ((p0).map eLock)))), (43, iV s1.v5), (48, iV (IntKind.wrap .i64 ((IntKind.wrap .i64 ((IntKind.wrap .i64 (s1.v1 + 1)) + 1)) + 1)))] []) [0, 1, 6] [0, 1, 5, 42, 43, 48] tyOK (by kernel_rfl) (by kernel_rfl) (by kernel_rfl) ?_
                refine aa_index (i := 2) (d := 44) (size := 6) (n := s1.v5) (rows := (p0).map eLock) (listed' := #[true, true, true, false, false, false, true, false, false]) (st1 := mk 76 [(0, .one (.c (.sl 6 ((p0).map eLock)))), (1, iV (IntKind.wrap .i64 ((IntKind.wrap .i64 ((IntKind.wrap .i64 (s1.v1 + 1)) + 1)) + 1))), (5, iV s1.v5), (44, .one (.fp [iC x4.tx.c, iC x4.tx.e, iC x4.tx.n, sC x4.range.lo, sC x4.range.hi, bC x4.ex] 0)), (48, iV (IntKind.wrap .i64 ((IntKind.wrap .i64 ((IntKind.wrap .i64 (s1.v1 + 1)) + 1)) + 1)))] []) (eLock x4) [0, 1, 5, 44, 48] tyOK (by kernel_rfl) (by kernel_rfl) (getI_e ex4).1 (show ((p0).map eLock)[_]? = some _ from by rw [List.getElem?_map, (getI_e ex4).2]; rfl) (by kernel_rfl) (by kernel_rfl) (by kernel_rfl) (by kernel_rfl) ?_
                refine aa_take (fuel := 2) (listed' := #[true, true, true, true, true, true, true, false, false]) (st' := mk 76 [(0, .one (.c (.sl 6 ((p0).map eLock)))), (1, iV (IntKind.wrap .i64 ((IntKind.wrap .i64 ((IntKind.wrap .i64 (s1.v1 + 1)) + 1)) + 1))), (5, iV s1.v5), (47, sV x4.range.lo), (48, iV (IntKind.wrap .i64 ((IntKind.wrap .i64 ((IntKind.wrap .i64 (s1.v1 + 1)) + 1)) + 1)))] []) [3, 4, 5] [0, 1, 5, 47, 48] tyOK (by kernel_rfl) (by kernel_rfl) (by kernel_rfl) ?_
                refine aa_all [7] (by kernel_rfl) rfl ?_
                refine aa_cons ?_ aa_nil
                refine aone_enter (listed' := #[true, true, true, true, true, true, true, true, false]) (f := 79) (d := 49) (A := [iV (IntKind.wrap .i64 ((IntKind.wrap .i64 ((IntKind.wrap .i64 (s1.v1 + 1)) + 1)) + 1))]) (st1 := mk 76 [(0, .one (.c (.sl 6 ((p0).map eLock)))), (1, iV (IntKind.wrap .i64 ((IntKind.wrap .i64 ((IntKind.wrap .i64 (s1.v1 + 1)) + 1)) + 1))), (5, iV s1.v5), (47, sV x4.range.lo), (49, sV r1)] []) [0, 1, 5, 47, 49] (k_w_markText (IntKind.wrap .i64 ((IntKind.wrap .i64 ((IntKind.wrap .i64 (s1.v1 + 1)) + 1)) + 1)) r1 er1) Try.call79 (by kernel_rfl) (by kernel_rfl) (by kernel_rfl) (by kernel_rfl) ?_
                refine aa_take (fuel := 0) (listed' := #[true, true, true, true, true, true, true, true, true]) (st' := mk 76 [(0, .one (.c (.sl 6 ((p0).map eLock)))), (1, iV (IntKind.wrap .i64 ((IntKind.wrap .i64 ((IntKind.wrap .i64 (s1.v1 + 1)) + 1)) + 1))), (5, iV s1.v5), (50, bV (!(x4.range.lo.toList == r1.toList)))] []) [8] [0, 1, 5, 50] tyOK (by kernel_rfl) (by kernel_rfl) (by kernel_rfl) ?_
                refine aa_done (by kernel_rfl) ?_
                show _ = _; kernel_rfl
              refine a_cond (b := !(x4.range.lo.toList == r1.toList)) (by kernel_rfl) (fun h5 => ?_) (fun h5 => ?_)
              · replace h := cT h5 h
                refine a_seq ?_
                refine a_run [4] tyOK (st1 := mk 76 [(4, iV (-1))] []) (by kernel_rfl) ?_
                refine a_ret ?_
                obtain rfl := Option.some.inj h
                obtain rfl := zy2 _ rfl
                obtain rfl := zy1 _ rfl
                exact end_eq (res' := iV (-1)) (by kernel_rfl) (by first | rfl | simp)
              · replace h := cF h5 h
                refine a_skip ?_
                refine a_seq ?_
                refine a_run [0, 1, 5] tyOK (st1 := mk 76 [(0, .one (.c (.sl 6 ((p0).map eLock)))), (1, iV (IntKind.wrap .i64 ((IntKind.wrap .i64 ((IntKind.wrap .i64 ((IntKind.wrap .i64 (s1.v1 + 1)) + 1)) + 1)) + 1))), (5, iV s1.v5)] []) (by kernel_rfl) ?_
                refine a_seq ?_
                refine a_seq ?_
                obtain ⟨x5, ex5, h⟩ := bnd_e h
                obtain ⟨r2, er2, h⟩ := bnd_e h
                refine a_mid (mk 76 [(0, .one (.c (.sl 6 ((p0).map eLock)))), (1, iV (IntKind.wrap .i64 ((IntKind.wrap .i64 ((IntKind.wrap .i64 ((IntKind.wrap .i64 (s1.v1 + 1)) + 1)) + 1)) + 1))), (5, iV s1.v5), (61, bV (!(x5.range.hi.toList == r2.toList)))] []) ?_ ?_
                · refine a_drawn (n := 9) [] (by kernel_rfl) (by kernel_rfl) ?_
                  refine aa_take (fuel := 6) (listed' := #[true, true, false, false, false, false, true, false, false]) (st' := mk 76 [(0, .one (.c (.sl 6 ((p0).map eLock)))), (1, iV (IntKind.wrap .i64 ((IntKind.wrap .i64 ((IntKind.wrap .i64 ((IntKind.wrap .i64 (s1.v1 + 1)) + 1)) + 1)) + 1))), (5, iV s1.v5), (53, .one (.c (.sl 6 ((p0).map eLock)))), (54, iV s1.v5), (59, iV (IntKind.wrap .i64 ((IntKind.wrap .i64 ((IntKind.wrap .i64 ((IntKind.wrap .i64 (s1.v1 + 1)) + 1)) + 1)) + 1)))] []) [0, 1, 6] [0, 1, 5, 53, 54, 59] tyOK (by kernel_rfl) (by kernel_rfl) (by kernel_rfl) ?_
                  refine aa_index (i := 2) (d := 55) (size := 6) (n := s1.v5) (rows := (p0).map eLock) (listed' := #[true, true, true, false, false, false, true, false, false]) (st1 := mk 76 [(0, .one (.c (.sl 6 ((p0).map eLock)))), (1, iV (IntKind.wrap .i64 ((IntKind.wrap .i64 ((IntKind.wrap .i64 ((IntKind.wrap .i64 (s1.v1 + 1)) + 1)) + 1)) + 1))), (5, iV s1.v5), (55, .one (.fp [iC x5.tx.c, iC x5.tx.e, iC x5.tx.n, sC x5.range.lo, sC x5.range.hi, bC x5.ex] 0)), (59, iV (IntKind.wrap .i64 ((IntKind.wrap .i64 ((IntKind.wrap .i64 ((IntKind.wrap .i64 (s1.v1 + 1)) + 1)) + 1)) + 1)))] []) (eLock x5) [0, 1, 5, 55, 59] tyOK (by kernel_rfl) (by kernel_rfl) (getI_e ex5).1 (show ((p0).map eLock)[_]? = some _ from by rw [List.getElem?_map, (getI_e ex5).2]; rfl) (by kernel_rfl) (by kernel_rfl) (by kernel_rfl) (by kernel_rfl) ?_
                  refine aa_take (fuel := 2) (listed' := #[true, true, true, true, true, true, true, false, false]) (st' := mk 76 [(0, .one (.c (.sl 6 ((p0).map eLock)))), (1, iV (IntKind.wrap .i64 ((IntKind.wrap .i64 ((IntKind.wrap .i64 ((IntKind.wrap .i64 (s1.v1 + 1)) + 1)) + 1)) + 1))), (5, iV s1.v5), (58, sV x5.range.hi), (59, iV (IntKind.wrap .i64 ((IntKind.wrap .i64 ((IntKind.wrap .i64 ((IntKind.wrap .i64 (s1.v1 + 1)) + 1)) + 1)) + 1)))] []) [3, 4, 5] [0, 1, 5, 58, 59] tyOK (by kernel_rfl) (by kernel_rfl) (by kernel_rfl) ?_
                  refine aa_all [7] (by kernel_rfl) rfl ?_
                  refine aa_cons ?_ aa_nil
                  refine aone_enter (listed' := #[true, true, true, true, true, true, true, true, false]) (f := 79) (d := 60) (A := [iV (IntKind.wrap .i64 ((IntKind.wrap .i64 ((IntKind.wrap .i64 ((IntKind.wrap .i64 (s1.v1 + 1)) + 1)) + 1)) + 1))]) (st1 := mk 76 [(0, .one (.c (.sl 6 ((p0).map eLock)))), (1, iV (IntKind.wrap .i64 ((IntKind.wrap .i64 ((IntKind.wrap .i64 ((IntKind.wrap .i64 (s1.v1 + 1)) + 1)) + 1)) + 1))), (5, iV s1.v5), (58, sV x5.range.hi), (60, sV r2)] []) [0, 1, 5, 58, 60] (k_w_markText (IntKind.wrap .i64 ((IntKind.wrap .i64 ((IntKind.wrap .i64 ((IntKind.wrap .i64 (s1.v1 + 1)) + 1)) + 1)) + 1)) r2 er2) Try.call79 (by kernel_rfl) (by kernel_rfl) (by kernel_rfl) (by kernel_rfl) ?_
                  refine aa_take (fuel := 0) (listed' := #[true, true, true, true, true, true, true, true, true]) (st' := mk 76 [(0, .one (.c (.sl 6 ((p0).map eLock)))), (1, iV (IntKind.wrap .i64 ((IntKind.wrap .i64 ((IntKind.wrap .i64 ((IntKind.wrap .i64 (s1.v1 + 1)) + 1)) + 1)) + 1))), (5, iV s1.v5), (61, bV (!(x5.range.hi.toList == r2.toList)))] []) [8] [0, 1, 5, 61] tyOK (by kernel_rfl) (by kernel_rfl) (by kernel_rfl) ?_
                  refine aa_done (by kernel_rfl) ?_
                  show _ = _; kernel_rfl
                refine a_cond (b := !(x5.range.hi.toList == r2.toList)) (by kernel_rfl) (fun h6 => ?_) (fun h6 => ?_)
                · replace h := cT h6 h
                  refine a_seq ?_
                  refine a_run [4] tyOK (st1 := mk 76 [(4, iV (-1))] []) (by kernel_rfl) ?_
                  refine a_ret ?_
                  obtain rfl := Option.some.inj h
                  obtain rfl := zy2 _ rfl
                  obtain rfl := zy1 _ rfl
                  exact end_eq (res' := iV (-1)) (by kernel_rfl) (by first | rfl | simp)
                · replace h := cF h6 h
                  refine a_skip ?_
                  refine a_seq ?_
                  refine a_run [0, 1, 5] tyOK (st1 := mk 76 [(0, .one (.c (.sl 6 ((p0).map eLock)))), (1, iV (IntKind.wrap .i64 ((IntKind.wrap .i64 ((IntKind.wrap .i64 ((IntKind.wrap .i64 ((IntKind.wrap .i64 (s1.v1 + 1)) + 1)) + 1)) + 1)) + 1))), (5, iV s1.v5)] []) (by kernel_rfl) ?_
                  refine a_seq ?_
                  refine a_seq ?_
                  refine a_ops [0, 1, 2, 3, 4, 5, 6, 7, 8] (by kernel_rfl) ?_
                  refine ao_some [0, 1] [2, 3, 4, 5, 6, 7, 8] [0, 1, 5, 64, 65] tyOK (st1 := mk 76 [(0, .one (.c (.sl 6 ((p0).map eLock)))), (1, iV (IntKind.wrap .i64 ((IntKind.wrap .i64 ((IntKind.wrap .i64 ((IntKind.wrap .i64 ((IntKind.wrap .i64 (s1.v1 + 1)) + 1)) + 1)) + 1)) + 1))), (5, iV s1.v5), (64, .one (.c (.sl 6 ((p0).map eLock)))), (65, iV s1.v5)] []) (by kernel_rfl) ?_
                  obtain ⟨x6, ex6, h⟩ := bnd_e h
                  refine ao_index (d := 66) (size := 6) (n := s1.v5) (rows := (p0).map eLock) (st1 := mk 76 [(0, .one (.c (.sl 6 ((p0).map eLock)))), (1, iV (IntKind.wrap .i64 ((IntKind.wrap .i64 ((IntKind.wrap .i64 ((IntKind.wrap .i64 ((IntKind.wrap .i64 (s1.v1 + 1)) + 1)) + 1)) + 1)) + 1))), (5, iV s1.v5), (66, .one (.fp [iC x6.tx.c, iC x6.tx.e, iC x6.tx.n, sC x6.range.lo, sC x6.range.hi, bC x6.ex] 0))] []) (eLock x6) [0, 1, 5, 66] tyOK (by kernel_rfl) (getI_e ex6).1 (show ((p0).map eLock)[_]? = some _ from by rw [List.getElem?_map, (getI_e ex6).2]; rfl) (by kernel_rfl) (by kernel_rfl) ?_
                  refine ao_some [3, 4, 5, 6, 7, 8] [] [0, 1, 5, 72] tyOK (st1 := mk 76 [(0, .one (.c (.sl 6 ((p0).map eLock)))), (1, iV (IntKind.wrap .i64 ((IntKind.wrap .i64 ((IntKind.wrap .i64 ((IntKind.wrap .i64 ((IntKind.wrap .i64 (s1.v1 + 1)) + 1)) + 1)) + 1)) + 1))), (5, iV s1.v5), (72, bV (!(x6.ex == (((Int.tmod (IntKind.wrap .i64 ((IntKind.wrap .i64 ((IntKind.wrap .i64 ((IntKind.wrap .i64 ((IntKind.wrap .i64 (s1.v1 + 1)) + 1)) + 1)) + 1)) + 1)) 3) == 0)))))] []) (by kernel_rfl) ?_
                  refine ao_nil ?_
                  refine a_cond (b := !(x6.ex == (((Int.tmod (IntKind.wrap .i64 ((IntKind.wrap .i64 ((IntKind.wrap .i64 ((IntKind.wrap .i64 ((IntKind.wrap .i64 (s1.v1 + 1)) + 1)) + 1)) + 1)) + 1)) 3) == 0)))) (by kernel_rfl) (fun h7 => ?_) (fun h7 => ?_)
                  · replace h := cT h7 h
                    refine a_seq ?_
                    refine a_run [4] tyOK (st1 := mk 76 [(4, iV (-1))] []) (by kernel_rfl) ?_
                    refine a_ret ?_
                    obtain rfl := Option.some.inj h
                    obtain rfl := zy2 _ rfl
                    obtain rfl := zy1 _ rfl
                    exact end_eq (res' := iV (-1)) (by kernel_rfl) (by first | rfl | simp)
                  · replace h := cF h7 h
                    refine a_skip ?_
                    refine a_run [0, 1, 5] tyOK (st1 := mk 76 [(0, .one (.c (.sl 6 ((p0).map eLock)))), (1, iV (IntKind.wrap .i64 ((IntKind.wrap .i64 ((IntKind.wrap .i64 ((IntKind.wrap .i64 ((IntKind.wrap .i64 ((IntKind.wrap .i64 (s1.v1 + 1)) + 1)) + 1)) + 1)) + 1)) + 1))), (5, iV s1.v5)] []) (by kernel_rfl) ?_
                    refine a_run [0, 1, 5] tyOK (st1 := mk 76 [(0, .one (.c (.sl 6 ((p0).map eLock)))), (1, iV (IntKind.wrap .i64 ((IntKind.wrap .i64 ((IntKind.wrap .i64 ((IntKind.wrap .i64 ((IntKind.wrap .i64 ((IntKind.wrap .i64 (s1.v1 + 1)) + 1)) + 1)) + 1)) + 1)) + 1))), (5, iV (IntKind.wrap .i64 (s1.v5 + 1)))] []) (by kernel_rfl) ?_
                    obtain rfl := Option.some.inj h
                    show ∃ _, _ ∧ Imp _ _ _
                    refine ⟨_, rfl, ?_⟩
                    exact imp_keepTo [0, 1, 5] (by kernel_rfl) (imp_done rfl)
      · replace h := cF h1 h
        refine a_exit ?_
        obtain rfl := Option.some.inj h
        obtain rfl := zy2 _ rfl
        show ∃ _, _ ∧ Imp _ _ _
        refine ⟨_, rfl, ?_⟩
        exact imp_keepTo [1] (by kernel_rfl) (imp_done rfl)
    intro j1 hj1
    replace h := ky1 _ hj1
    refine a_seq ?_
    refine a_run [4] tyOK (st1 := mk 76 [(4, iV j1)] []) (by kernel_rfl) ?_
    refine a_ret ?_
    obtain rfl := Option.some.inj h
    exact end_eq (res' := iV j1) (by kernel_rfl) (by first | rfl | simp)

noncomputable def w_heldLocks (p0 : Locks) (p1 : Int) : Option (Int) :=
 bnd (w_heldLockS p0.held p1) fun r1 =>
 bif (decide (r1 < 0)) then
 (some (-1))
 else
 (bnd (w_heldLockS p0.wait r1) fun r2 =>
 bif (decide (r2 < 0)) then
 (some (-1))
 else
 (some r2))
set_option maxHeartbeats 4000000 in
/-- laws.heldLocks -/
theorem k_w_heldLocks (p0 : Locks) (p1 : Int) (v : Int) (h : w_heldLocks p0 p1 = some v) : CallOK Try.prog 35 [.agg [.c (.sl 6 ((p0.held).map eLock)), .c (.sl 6 ((p0.wait).map eLock))], iV p1] (iV v) [] :=
  callOK tyOK Try.func35 rfl fun w S hS => by
    unfold w_heldLocks at h
    refine a_seq ?_
    refine a_run [1, 2] tyOK (st1 := mk 18 [(1, iV p1), (2, .one (.pl [(2, 0)] 0 0))] [(2, [.bx [.fz (.sl 6 ((p0.held).map eLock)), .fz (.sl 6 ((p0.wait).map eLock))]])]) (by kernel_rfl) ?_
    refine a_seq ?_
    refine a_ops [0, 1, 2, 3, 4] (by kernel_rfl) ?_
    refine ao_some [0, 1, 2] [3, 4] [2, 6, 7] tyOK (st1 := mk 18 [(2, .one (.pl [(2, 0)] 0 0)), (6, .one (.c (.sl 6 ((p0.held).map eLock)))), (7, iV p1)] [(2, [.bx [.fz (.sl 6 ((p0.held).map eLock)), .fz (.sl 6 ((p0.wait).map eLock))]])]) (by kernel_rfl) ?_
    obtain ⟨r1, er1, h⟩ := bnd_e h
    refine ao_enter (f := 73) (d := 8) (A := [.one (.c (.sl 6 ((p0.held).map eLock))), iV p1]) (st1 := mk 18 [(2, .one (.pl [(2, 0)] 0 0)), (8, iV r1)] [(2, [.bx [.fz (.sl 6 ((p0.held).map eLock)), .fz (.sl 6 ((p0.wait).map eLock))]])]) [2, 8] (k_w_heldLockS p0.held p1 r1 er1) Try.call73 (by kernel_rfl) (by kernel_rfl) (by kernel_rfl) ?_
    refine ao_some [4] [] [1, 2] tyOK (st1 := mk 18 [(1, iV r1), (2, .one (.pl [(2, 0)] 0 0))] [(2, [.bx [.fz (.sl 6 ((p0.held).map eLock)), .fz (.sl 6 ((p0.wait).map eLock))]])]) (by kernel_rfl) ?_
    refine ao_nil ?_
    refine a_seq ?_
    refine a_seq ?_
    refine a_run [1, 2, 10] tyOK (st1 := mk 18 [(1, iV r1), (2, .one (.pl [(2, 0)] 0 0)), (10, bV (decide (r1 < 0)))] [(2, [.bx [.fz (.sl 6 ((p0.held).map eLock)), .fz (.sl 6 ((p0.wait).map eLock))]])]) (by kernel_rfl) ?_
    refine a_cond (b := decide (r1 < 0)) (by kernel_rfl) (fun h1 => ?_) (fun h1 => ?_)
    · replace h := cT h1 h
      refine a_seq ?_
      refine a_run [4] tyOK (st1 := mk 18 [(4, iV (-1))] []) (by kernel_rfl) ?_
      refine a_ret ?_
      obtain rfl := Option.some.inj h
      exact end_eq (res' := iV (-1)) (by kernel_rfl) (by first | rfl | simp)
    · replace h := cF h1 h
      refine a_skip ?_
      refine a_seq ?_
      refine a_ops [0, 1, 2, 3, 4] (by kernel_rfl) ?_
      refine ao_some [0, 1, 2] [3, 4] [12, 13] tyOK (st1 := mk 18 [(12, .one (.c (.sl 6 ((p0.wait).map eLock)))), (13, iV r1)] []) (by kernel_rfl) ?_
      obtain ⟨r2, er2, h⟩ := bnd_e h
      refine ao_enter (f := 73) (d := 14) (A := [.one (.c (.sl 6 ((p0.wait).map eLock))), iV r1]) (st1 := mk 18 [(14, iV r2)] []) [14] (k_w_heldLockS p0.wait r1 r2 er2) Try.call73 (by kernel_rfl) (by kernel_rfl) (by kernel_rfl) ?_
      refine ao_some [4] [] [1] tyOK (st1 := mk 18 [(1, iV r2)] []) (by kernel_rfl) ?_
      refine ao_nil ?_
      refine a_seq ?_
      refine a_seq ?_
      refine a_run [1, 16] tyOK (st1 := mk 18 [(1, iV r2), (16, bV (decide (r2 < 0)))] []) (by kernel_rfl) ?_
      refine a_cond (b := decide (r2 < 0)) (by kernel_rfl) (fun h2 => ?_) (fun h2 => ?_)
      · replace h := cT h2 h
        refine a_seq ?_
        refine a_run [4] tyOK (st1 := mk 18 [(4, iV (-1))] []) (by kernel_rfl) ?_
        refine a_ret ?_
        obtain rfl := Option.some.inj h
        exact end_eq (res' := iV (-1)) (by kernel_rfl) (by first | rfl | simp)
      · replace h := cF h2 h
        refine a_skip ?_
        refine a_seq ?_
        refine a_run [4] tyOK (st1 := mk 18 [(4, iV r2)] []) (by kernel_rfl) ?_
        refine a_ret ?_
        obtain rfl := Option.some.inj h
        exact end_eq (res' := iV r2) (by kernel_rfl) (by first | rfl | simp)

end Go.Proofs.Ytijmnochaamllaa
namespace Go.Proofs.Ytijmnochaamllaa
open Go.Mv Go.RowKit

/-! ### Copies, comparisons, marks -/
theorem toLock_eq (x : Lock) : w_toLock x = x := rfl
theorem toLockS_eq (xs : List Lock) (hn : xs.length * 64 ≤ 140737488355328) : w_toLockS xs = some xs := by
  unfold w_toLockS
  rw [List.length_map, chk_i (by omega), Int.toNat_natCast]
  have := loopT_val (f := Bw_toLockS_1 xs) (fun _ => some xs) (fun s => ∃ k : Nat, k ≤ xs.length ∧ s.v4 = k ∧ s.w7_0 = xs.take k ++ List.replicate (xs.length - k) (⟨⟨0, 0, 0⟩, ⟨⟨#[]⟩, ⟨#[]⟩⟩, false⟩ : Lock)) (fun s => xs.length - s.v4.toNat) (fun s ⟨k, hk, h1, h2⟩ => by
    obtain ⟨v4, w⟩ := s
    simp only at h1 h2
    subst h1 h2
    unfold Bw_toLockS_1
    rw [List.length_map]
    dsimp only
    by_cases he : k = xs.length
    · subst he
      rw [decide_eq_false (by omega), cond_false]
      exact .inl ⟨_, rfl, by simp⟩
    · have hlt : k < xs.length := by omega
      rw [decide_eq_true (by omega : (k : Int) < (xs.length : Int)), cond_true, getI_at (List.getElem?_eq_getElem hlt), bnd_some]
      have hx : (xs.take k ++ List.replicate (xs.length - k) (⟨⟨0, 0, 0⟩, ⟨⟨#[]⟩, ⟨#[]⟩⟩, false⟩ : Lock))[k]? = some (⟨⟨0, 0, 0⟩, ⟨⟨#[]⟩, ⟨#[]⟩⟩, false⟩ : Lock) := by
        rw [List.getElem?_append_right (by simp; omega), List.getElem?_replicate]
        simp
        omega
      rw [getI_at hx, bnd_some, wrapL _ (by omega) (by omega)]
      refine .inr ⟨_, rfl, ⟨k + 1, by omega, by simp, ?_⟩, by simp; omega, rfl⟩
      dsimp only
      have ht : xs.take (k + 1) = xs.take k ++ [xs[k]] := by rw [List.take_add_one, List.getElem?_eq_getElem hlt]; rfl
      rw [Int.toNat_natCast, toLock_eq, show xs.length - k = (xs.length - (k + 1)) + 1 by omega, List.replicate_succ, ht, List.set_append_right _ _ (by simp; omega), List.append_assoc]
      congr 1
      rw [List.length_take, Nat.min_eq_left (Nat.le_of_lt hlt), Nat.sub_self]
      rfl) ⟨0, List.replicate xs.length ⟨⟨0, 0, 0⟩, ⟨⟨#[]⟩, ⟨#[]⟩⟩, false⟩⟩ ⟨0, by omega, rfl, by simp⟩
  rw [this, bnd_some]
theorem toLocks_eq (p : Locks) (hp : Small p) : w_toLocks p = some p := by
  unfold w_toLocks
  rw [toLockS_eq _ hp.1, bnd_some, toLockS_eq _ hp.2, bnd_some]

theorem eqLock_self (x : Lock) : w_eqLock x x = true := by simp [w_eqLock, w_eqTx, w_eqRange]
theorem eqLockS_self (xs : List Lock) (hn : xs.length < 9223372036854775807) : w_eqLockS xs xs = some true := by
  have := loop_first xs (fun _ _ => (none : Option Bool)) (Bw_eqLockS_1 xs xs) outU hn (fun k y hy => by
    have hlt := (List.getElem?_eq_some_iff.1 hy).1
    unfold Bw_eqLockS_1
    rw [List.length_map, decide_eq_true (by omega : (k : Int) < (xs.length : Int)), cond_true, getI_at hy, bnd_some, bnd_some, eqLock_self]
    rfl) (by unfold Bw_eqLockS_1; rw [List.length_map, decide_eq_false (by omega), cond_false]; rfl)
  unfold w_eqLockS
  rw [this]
  have : firstL (fun (_ : Nat) (_ : Lock) => (none : Option Bool)) xs 0 = none := by
    have key : ∀ (ys : List Lock) k, firstL (fun (_ : Nat) (_ : Lock) => (none : Option Bool)) ys k = none := fun ys => by
      induction ys with
      | nil => intro k; rfl
      | cons y ys ih => intro k; exact ih (k + 1)
    exact key xs 0
  rw [this, show ((((xs.map eLock).length : Nat) : Int) != (((xs.map eLock).length : Nat) : Int)) = false by simp]
  rfl
theorem eqLocks_self (p : Locks) (h1 : p.held.length < 9223372036854775807) (h2 : p.wait.length < 9223372036854775807) : w_eqLocks p p = some true := by
  unfold w_eqLocks
  rw [eqLockS_self _ h1, bnd_some, eqLockS_self _ h2, bnd_some]
  rfl

theorem szLockS_some (xs : List Lock) (l : Int) (hn : xs.length < 9223372036854775807) : ∃ r, w_szLockS xs l = some r := by
  unfold w_szLockS
  rw [List.length_map]
  cases decide (IntKind.wrap .i64 (l - (xs.length : Int)) < 0) with
  | true => exact ⟨_, rfl⟩
  | false =>
    obtain ⟨t, h, _⟩ := loopT_ex (f := Bw_szLockS_1 xs) (fun _ => True) (fun s => 0 ≤ s.v5 ∧ s.v5 ≤ xs.length) (fun s => xs.length - s.v5.toNat) (fun s ⟨h0, h1⟩ => by
      obtain ⟨v1, v5⟩ := s
      simp only at h0 h1
      obtain ⟨k, rfl⟩ := Int.eq_ofNat_of_zero_le h0
      unfold Bw_szLockS_1
      rw [List.length_map]
      dsimp only
      by_cases he : k = xs.length
      · subst he
        rw [decide_eq_false (by omega), cond_false]
        exact .inl ⟨_, rfl, trivial⟩
      · have hlt : k < xs.length := by omega
        rw [decide_eq_true (by omega : (k : Int) < (xs.length : Int)), cond_true, getI_at (List.getElem?_eq_getElem hlt), bnd_some]
        cases decide (w_szLock xs[k] v1 < 0) with
        | true => exact .inl ⟨_, rfl, trivial⟩
        | false =>
          refine .inr ⟨_, rfl, ?_, ?_⟩ <;> dsimp only <;> rw [wrapL _ (by omega) (by omega)] <;> omega) ⟨IntKind.wrap .i64 (l - (xs.length : Int)), 0⟩ ⟨by simp, by simp⟩
    simp only [cond_false]
    rw [h]
    cases t with
    | inl j => exact ⟨_, rfl⟩
    | inr j => exact ⟨_, rfl⟩
theorem szLocks_some (p : Locks) (l : Int) (h1 : p.held.length < 9223372036854775807) (h2 : p.wait.length < 9223372036854775807) : ∃ r, w_szLocks p l = some r := by
  unfold w_szLocks
  obtain ⟨r, hr⟩ := szLockS_some p.held l h1
  rw [hr, bnd_some]
  cases decide (r < 0) with
  | true => exact ⟨_, rfl⟩
  | false =>
    obtain ⟨r2, hr2⟩ := szLockS_some p.wait r h2
    simp only [cond_false]
    rw [hr2, bnd_some]
    cases decide (r2 < 0) with
    | true => exact ⟨_, rfl⟩
    | false => exact ⟨_, rfl⟩

theorem byteB_one (n : Int) : (byteB n).size = 1 := by simp [byteB, ByteArray.size]
theorem markText_some (k : Int) (h : k < 9223372036854775808) : ∃ t, w_markText k = some t := by
  unfold w_markText
  by_cases h0 : k ≤ 0
  · rw [decide_eq_true h0]; exact ⟨_, rfl⟩
  rw [decide_eq_false h0]
  simp only [cond_false]
  obtain ⟨t, h1, h2⟩ := loopT_ex (f := Bw_markText_1) (fun t => t.size ≤ 63) (fun s => 0 ≤ s.v0 ∧ s.v0 * 2 ^ s.v3.size < 9223372036854775808 ∧ s.v3.size ≤ 63) (fun s => s.v0.toNat) (fun s ⟨g0, g1, g2⟩ => by
    obtain ⟨m, o⟩ := s
    simp only at g0 g1 g2
    unfold Bw_markText_1
    by_cases hm : m > 0
    · rw [decide_eq_true hm]
      simp only [cond_true]
      have hpos : (0 : Int) < 2 ^ o.size := Int.pow_pos (by decide)
      have hmlt : m < 9223372036854775808 := by
        have : m * 1 ≤ m * 2 ^ o.size := Int.mul_le_mul_of_nonneg_left (by omega) (by omega)
        omega
      have hs : o.size < 63 := by
        rcases Nat.lt_or_ge o.size 63 with h | h
        · exact h
        · exfalso
          have e : o.size = 63 := by omega
          rw [e] at g1
          have : (1 : Int) * 2 ^ 63 ≤ m * 2 ^ 63 := Int.mul_le_mul_of_nonneg_right (by omega) (by decide)
          have : (2 : Int) ^ 63 = 9223372036854775808 := by decide
          omega
      rw [chk_i (by rw [byteB_one]; omega)]
      have hd : Int.tdiv m 10 = m / 10 := Int.tdiv_eq_ediv_of_nonneg (by omega)
      have hz : IntKind.wrap .i64 (Int.tdiv m 10) = m / 10 := by rw [hd, wrapL _ (by omega) (by omega)]
      have hz2 : (byteB (IntKind.wrap .u8 (IntKind.wrap .i64 (48 + Int.tmod m 10))) ++ o).size = o.size + 1 := by rw [ByteArray.size_append, byteB_one, Nat.add_comm]
      refine .inr ⟨_, rfl, ⟨?_, ?_, ?_⟩, ?_⟩ <;> dsimp only <;> simp only [hz, hz2]
      · omega
      · rw [Int.pow_succ]
        have : m / 10 * (2 ^ o.size * 2) ≤ m * 2 ^ o.size := by
          have h5 : m / 10 * 2 ≤ m := by omega
          calc m / 10 * (2 ^ o.size * 2) = (m / 10 * 2) * 2 ^ o.size := by rw [Int.mul_comm (2 ^ o.size) 2, Int.mul_assoc]
            _ ≤ m * 2 ^ o.size := Int.mul_le_mul_of_nonneg_right h5 (by omega)
        omega
      · omega
      · omega
    · rw [decide_eq_false hm]
      exact .inl ⟨_, rfl, g2⟩) ⟨k, ⟨#[]⟩⟩ ⟨by dsimp only; omega, by simpa [ByteArray.size] using h, by simp [ByteArray.size]⟩
  rw [h1, bnd_some, chk_i (by simp only [ByteArray.size, List.size_toArray, List.length_cons, List.length_nil] at h2 ⊢; omega)]
  exact ⟨_, rfl⟩
noncomputable def mt (k : Int) : ByteArray := (w_markText k).getD default
theorem mt_eq (k : Int) (h : k < 9223372036854775808) : w_markText k = some (mt k) := by
  obtain ⟨t, ht⟩ := markText_some k h
  unfold mt
  rw [ht]
  rfl
noncomputable def mk1 (k : Int) : Lock := ⟨⟨k, k + 1, k + 2⟩, ⟨mt (k + 3), mt (k + 4)⟩, (Int.tmod (k + 5) 3 == 0)⟩
noncomputable def mks (k : Int) (n : Nat) : List Lock := (List.range n).map fun (i : Nat) => mk1 (k + 6 * (i : Int))
theorem mks_len (k : Int) (n : Nat) : (mks k n).length = n := by simp [mks]
theorem mks_succ (k : Int) (n : Nat) : mks k (n + 1) = mks k n ++ [mk1 (k + 6 * n)] := by simp [mks, List.range_succ]
theorem markLockS_eq (xs : List Lock) (k : Int) (h0 : 0 ≤ k) (hk : k + 6 * xs.length < 9223372036854775000) : w_markLockS xs k = some (mks k xs.length, k + 6 * xs.length) := by
  unfold w_markLockS
  obtain ⟨t, h1, h2⟩ := loopT_ex (f := Bw_markLockS_1) (fun t => t = ⟨k + 6 * xs.length, mks k xs.length⟩) (fun s => ∃ i : Nat, i ≤ xs.length ∧ s = ⟨k + 6 * i, i, mks k i ++ xs.drop i⟩) (fun s => xs.length - s.v5.toNat) (fun s ⟨i, hi, hs⟩ => by
    subst hs
    unfold Bw_markLockS_1
    have hlen : (mks k i ++ xs.drop i).length = xs.length := by simp [mks_len]; omega
    dsimp only
    rw [hlen]
    by_cases he : i = xs.length
    · subst he
      rw [decide_eq_false (by omega), cond_false]
      exact .inl ⟨_, rfl, by simp⟩
    · have hlt : i < xs.length := by omega
      have hx : (mks k i ++ xs.drop i)[i]? = some xs[i] := by
        rw [List.getElem?_append_right (by simp [mks_len]), mks_len]
        simp [hlt]
      rw [decide_eq_true (by omega : (i : Int) < (xs.length : Int)), cond_true, getI_at hx, bnd_some]
      have w1 : ∀ c : Int, 0 ≤ c → c ≤ 100 → IntKind.wrap .i64 (k + 6 * i + c) = k + 6 * i + c := fun c c0 c1 => wrapL _ (by omega) (by omega)
      have e1 : IntKind.wrap .i64 (k + 6 * i + 1) = k + 6 * i + 1 := wrapL _ (by omega) (by omega)
      have e2 : IntKind.wrap .i64 (k + 6 * i + 1 + 1) = k + 6 * i + 2 := by rw [wrapL _ (by omega) (by omega)]; omega
      have e3 : IntKind.wrap .i64 (k + 6 * i + 2 + 1) = k + 6 * i + 3 := by rw [wrapL _ (by omega) (by omega)]; omega
      have e4 : IntKind.wrap .i64 (k + 6 * i + 3 + 1) = k + 6 * i + 4 := by rw [wrapL _ (by omega) (by omega)]; omega
      have e5 : IntKind.wrap .i64 (k + 6 * i + 4 + 1) = k + 6 * i + 5 := by rw [wrapL _ (by omega) (by omega)]; omega
      have e6 : IntKind.wrap .i64 (k + 6 * i + 5 + 1) = k + 6 * i + 6 := by rw [wrapL _ (by omega) (by omega)]; omega
      have e7 : IntKind.wrap .i64 ((i : Int) + 1) = ((i + 1 : Nat) : Int) := by rw [wrapL _ (by omega) (by omega)]; rfl
      simp only [e1, e2, e3, e4, e5, e6, e7, mt_eq _ (show k + 6 * (i : Int) + 3 < 9223372036854775808 by omega), mt_eq _ (show k + 6 * (i : Int) + 4 < 9223372036854775808 by omega), bnd_some]
      refine .inr ⟨_, rfl, ⟨i + 1, by omega, ?_⟩, by simp; omega⟩
      congr 1
      · omega
      · rw [Int.toNat_natCast, mks_succ, List.set_append]
        simp [mks_len]
        rw [List.drop_eq_getElem_cons hlt]
        rfl) ⟨k, 0, xs⟩ ⟨0, by omega, by simp [mks]⟩
  rw [h1, bnd_some, h2]
theorem heldLockS_eq (n : Nat) (k : Int) (h0 : 0 ≤ k) (hk : k + 6 * n < 9223372036854775000) : w_heldLockS (mks k n) k = some (k + 6 * n) := by
  unfold w_heldLockS
  obtain ⟨t, h1, h2⟩ := loopT_ex (f := Bw_heldLockS_1 (mks k n)) (fun t => t = .inl (k + 6 * n)) (fun s => ∃ i : Nat, i ≤ n ∧ s = ⟨k + 6 * i, i⟩) (fun s => n - s.v5.toNat) (fun s ⟨i, hi, hs⟩ => by
    subst hs
    unfold Bw_heldLockS_1
    rw [List.length_map, mks_len]
    dsimp only
    by_cases he : i = n
    · subst he
      rw [decide_eq_false (by omega), cond_false]
      exact .inl ⟨_, rfl, rfl⟩
    · have hlt : i < n := by omega
      have hx : (mks k n)[i]? = some (mk1 (k + 6 * i)) := by simp [mks, hlt]
      rw [decide_eq_true (by omega : (i : Int) < (n : Int)), cond_true, getI_at hx]
      have e1 : IntKind.wrap .i64 (k + 6 * i + 1) = k + 6 * i + 1 := wrapL _ (by omega) (by omega)
      have e2 : IntKind.wrap .i64 (k + 6 * i + 1 + 1) = k + 6 * i + 2 := by rw [wrapL _ (by omega) (by omega)]; omega
      have e3 : IntKind.wrap .i64 (k + 6 * i + 2 + 1) = k + 6 * i + 3 := by rw [wrapL _ (by omega) (by omega)]; omega
      have e4 : IntKind.wrap .i64 (k + 6 * i + 3 + 1) = k + 6 * i + 4 := by rw [wrapL _ (by omega) (by omega)]; omega
      have e5 : IntKind.wrap .i64 (k + 6 * i + 4 + 1) = k + 6 * i + 5 := by rw [wrapL _ (by omega) (by omega)]; omega
      have e6 : IntKind.wrap .i64 (k + 6 * i + 5 + 1) = k + 6 * i + 6 := by rw [wrapL _ (by omega) (by omega)]; omega
      have e7 : IntKind.wrap .i64 ((i : Int) + 1) = ((i + 1 : Nat) : Int) := by rw [wrapL _ (by omega) (by omega)]; rfl
      simp only [e1, e2, e3, e4, e5, e6, e7, mt_eq _ (show k + 6 * (i : Int) + 3 < 9223372036854775808 by omega), mt_eq _ (show k + 6 * (i : Int) + 4 < 9223372036854775808 by omega), bnd_some, mk1, bne_self_eq_false, beq_self_eq_true, Bool.not_true, cond_false]
      refine .inr ⟨_, rfl, ⟨i + 1, by omega, ?_⟩, by simp; omega⟩
      congr 1
      omega) ⟨k, 0⟩ ⟨0, by omega, by simp⟩
  rw [h1, h2]
  rfl
theorem markLocks_eq (p : Locks) (h : p.held.length + p.wait.length < 1000000000000000) : w_markLocks p 1 = some ((⟨mks 1 p.held.length, mks (1 + 6 * (p.held.length : Int)) p.wait.length⟩ : Locks), 1 + 6 * (p.held.length : Int) + 6 * (p.wait.length : Int)) := by
  unfold w_markLocks
  rw [markLockS_eq _ _ (by omega) (by omega), bnd_some]
  rw [chk_i (by simp [mks_len]), markLockS_eq _ _ (by omega) (by omega), bnd_some, chk_i (by simp [mks_len])]
theorem heldLocks_eq (m n : Nat) (h : m + n < 1000000000000000) : w_heldLocks ⟨mks 1 m, mks (1 + 6 * (m : Int)) n⟩ 1 = some (1 + 6 * (m : Int) + 6 * (n : Int)) := by
  unfold w_heldLocks
  dsimp only
  rw [heldLockS_eq _ _ (by omega) (by omega), bnd_some, decide_eq_false (by omega), cond_false, heldLockS_eq _ _ (by omega) (by omega), bnd_some, decide_eq_false (by omega), cond_false]
end Go.Proofs.Ytijmnochaamllaa
