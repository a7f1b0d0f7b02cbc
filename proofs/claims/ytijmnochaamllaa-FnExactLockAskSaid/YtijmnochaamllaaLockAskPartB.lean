/- What functions of the given program compute, each proved once, for the law that is proved in YtijmnochaamllaaLockAsk: whatever their arguments, under the conditions that each theorem names. -/
import Derived.Test.YtijmnochaamllaaLockAskPartA
set_option linter.unusedVariables false
set_option linter.unusedSimpArgs false
namespace Go.Proofs.Ytijmnochaamllaa
open Go.Mv Go.RowKit
noncomputable def Bs_l07Waits_1 (p0 : Locks) (p1 : Tx) (s1 : Int) : Option (Int ⊕ (Unit ⊕ (Bool))) :=
 bif (decide (s1 < (((((p0.wait).map eLock).length : Nat) : Int)))) then
 (bnd (getI p0.wait s1) fun x1 =>
 bif (((x1.tx.c == p1.c) && ((x1.tx.e == p1.e) && ((x1.tx.n == p1.n) && true)))) then
 (some (.inr (.inr true)))
 else
 (some (.inl (IntKind.wrap .i64 (s1 + 1)))))
 else
 (some (.inr (.inl (()))))

noncomputable def s_l07Waits (p0 : Locks) (p1 : Tx) : Option (Bool) :=
 bndS (loopT (Bs_l07Waits_1 p0 p1) 0) fun j1 =>
 some false
set_option maxHeartbeats 4000000 in
/-- spec.l07Waits -/
theorem k_s_l07Waits (p0 : Locks) (p1 : Tx) (v : Bool) (h : s_l07Waits p0 p1 = some v) : CallOK Try.prog 62 [.agg [.c (.sl 6 ((p0.held).map eLock)), .c (.sl 6 ((p0.wait).map eLock))], .agg [.c (iC p1.c), .c (iC p1.e), .c (iC p1.n)]] (bV v) [] :=
  callOK tyOK Try.func62 rfl fun w S hS => by
    unfold s_l07Waits at h
    refine a_seq ?_
    refine a_run [2, 3] tyOK (st1 := mk 19 [(2, .one (.pl [(2, 0)] 0 0)), (3, .one (.pl [(3, 0)] 0 0))] [(2, [.bx [.fz (.sl 6 ((p0.held).map eLock)), .fz (.sl 6 ((p0.wait).map eLock))]]), (3, [.bx [iC p1.c, iC p1.e, iC p1.n]])]) (by kernel_rfl) ?_
    refine a_seq ?_
    refine a_seq ?_
    refine a_run [3, 8, 9, 10] tyOK (st1 := mk 19 [(3, .one (.pl [(3, 0)] 0 0)), (8, .one (.c (.sl 6 ((p0.wait).map eLock)))), (9, iV (((((p0.wait).map eLock).length : Nat) : Int))), (10, iV 0)] [(3, [.bx [iC p1.c, iC p1.e, iC p1.n]])]) (by kernel_rfl) ?_
    obtain ⟨y1, h, ky1, zy1⟩ := bndS_e h
    refine a_joinT (ι := Unit) (fun j => mk 19 [] []) (fun j => y1 = .inl j) ?_ ?_
    · refine a_block ?_
      refine a_loopT (Bs_l07Waits_1 p0 p1) (fun s1 => mk 19 [(3, .one (.pl [(3, 0)] 0 0)), (8, .one (.c (.sl 6 ((p0.wait).map eLock)))), (9, iV (((((p0.wait).map eLock).length : Nat) : Int))), (10, iV s1)] [(3, [.bx [iC p1.c, iC p1.e, iC p1.n]])]) 0 h ?_ ?_
      · exact imp_keepTo [3, 8, 9, 10] (by kernel_rfl) (imp_done rfl)
      intro s1 y2 h zy2
      unfold Bs_l07Waits_1 at h
      refine a_seq ?_
      refine a_run [3, 8, 9, 10, 11] tyOK (st1 := mk 19 [(3, .one (.pl [(3, 0)] 0 0)), (8, .one (.c (.sl 6 ((p0.wait).map eLock)))), (9, iV (((((p0.wait).map eLock).length : Nat) : Int))), (10, iV s1), (11, bV (decide (s1 < (((((p0.wait).map eLock).length : Nat) : Int)))))] [(3, [.bx [iC p1.c, iC p1.e, iC p1.n]])]) (by kernel_rfl) ?_
      refine a_seq ?_
      refine a_cond (b := decide (s1 < (((((p0.wait).map eLock).length : Nat) : Int)))) (by kernel_rfl) (fun h1 => ?_) (fun h1 => ?_)
      · replace h := cT h1 h
        refine a_skip ?_
        refine a_seq ?_
        refine a_block ?_
        refine a_seq ?_
        refine a_ops [0, 1, 2, 3] (by kernel_rfl) ?_
        obtain ⟨x1, ex1, h⟩ := bnd_e h
        refine ao_index (d := 12) (size := 6) (n := s1) (rows := (p0.wait).map eLock) (st1 := mk 19 [(3, .one (.pl [(3, 0)] 0 0)), (8, .one (.c (.sl 6 ((p0.wait).map eLock)))), (9, iV (((((p0.wait).map eLock).length : Nat) : Int))), (10, iV s1), (12, .one (.fp [iC x1.tx.c, iC x1.tx.e, iC x1.tx.n, sC x1.range.lo, sC x1.range.hi, bC x1.ex] 0))] [(3, [.bx [iC p1.c, iC p1.e, iC p1.n]])]) (eLock x1) [3, 8, 9, 10, 12] tyOK (by kernel_rfl) (getI_e ex1).1 (show ((p0.wait).map eLock)[_]? = some _ from by rw [List.getElem?_map, (getI_e ex1).2]; rfl) (by kernel_rfl) (by kernel_rfl) ?_
        refine ao_some [1, 2, 3] [] [3, 6, 8, 9, 10] tyOK (st1 := mk 19 [(3, .one (.pl [(3, 0)] 0 0)), (6, .one (.pl [(6, 0)] 0 0)), (8, .one (.c (.sl 6 ((p0.wait).map eLock)))), (9, iV (((((p0.wait).map eLock).length : Nat) : Int))), (10, iV s1)] [(3, [.bx [iC p1.c, iC p1.e, iC p1.n]]), (6, [.bx [iC x1.tx.c, iC x1.tx.e, iC x1.tx.n, sC x1.range.lo, sC x1.range.hi, bC x1.ex]])]) (by kernel_rfl) ?_
        refine ao_nil ?_
        refine a_seq ?_
        refine a_run [3, 8, 9, 10, 17] tyOK (st1 := mk 19 [(3, .one (.pl [(3, 0)] 0 0)), (8, .one (.c (.sl 6 ((p0.wait).map eLock)))), (9, iV (((((p0.wait).map eLock).length : Nat) : Int))), (10, iV s1), (17, bV (((x1.tx.c == p1.c) && ((x1.tx.e == p1.e) && ((x1.tx.n == p1.n) && true)))))] [(3, [.bx [iC p1.c, iC p1.e, iC p1.n]])]) (by kernel_rfl) ?_
        refine a_cond (b := ((x1.tx.c == p1.c) && ((x1.tx.e == p1.e) && ((x1.tx.n == p1.n) && true)))) (by kernel_rfl) (fun h2 => ?_) (fun h2 => ?_)
        · replace h := cT h2 h
          refine a_seq ?_
          refine a_run [4] tyOK (st1 := mk 19 [(4, bV true)] []) (by kernel_rfl) ?_
          refine a_ret ?_
          obtain rfl := Option.some.inj h
          obtain rfl := zy2 _ rfl
          obtain rfl := zy1 _ rfl
          exact end_eq (res' := bV true) (by kernel_rfl) (by first | rfl | simp)
        · replace h := cF h2 h
          refine a_skip ?_
          refine a_run [3, 8, 9, 10] tyOK (st1 := mk 19 [(3, .one (.pl [(3, 0)] 0 0)), (8, .one (.c (.sl 6 ((p0.wait).map eLock)))), (9, iV (((((p0.wait).map eLock).length : Nat) : Int))), (10, iV (IntKind.wrap .i64 (s1 + 1)))] [(3, [.bx [iC p1.c, iC p1.e, iC p1.n]])]) (by kernel_rfl) ?_
          obtain rfl := Option.some.inj h
          show ∃ _, _ ∧ Imp _ _ _
          refine ⟨_, rfl, ?_⟩
          exact imp_keepTo [3, 8, 9, 10] (by kernel_rfl) (imp_done rfl)
      · replace h := cF h1 h
        refine a_exit ?_
        obtain rfl := Option.some.inj h
        obtain rfl := zy2 _ rfl
        show ∃ _, _ ∧ Imp _ _ _
        refine ⟨_, rfl, ?_⟩
        exact imp_keepTo [] (by kernel_rfl) (imp_done rfl)
    intro j1 hj1
    replace h := ky1 _ hj1
    refine a_seq ?_
    refine a_run [4] tyOK (st1 := mk 19 [(4, bV false)] []) (by kernel_rfl) ?_
    refine a_ret ?_
    obtain rfl := Option.some.inj h
    exact end_eq (res' := bV false) (by kernel_rfl) (by first | rfl | simp)

noncomputable def Bs_LocksOk_1 (p0 : Locks) (s1 : Int) : Option (Int ⊕ (Unit ⊕ (Bool))) :=
 bif (decide (s1 < (((((p0.held).map eLock).length : Nat) : Int)))) then
 (bnd (getI p0.held s1) fun x1 =>
 bnd (bif (!(s_l07LockOk x1)) then
 (some true)
 else
 (chk (0 ≤ (0 : Int) ∧ (0 : Int) ≤ s1 ∧ s1 ≤ ((p0.held).length : Int)) <|
 bnd (s_l07Any (p0.held.take ((s1).toNat)) x1) fun r1 =>
 some r1)) fun j1 =>
 bif j1 then
 (some (.inr (.inr false)))
 else
 (some (.inl (IntKind.wrap .i64 (s1 + 1)))))
 else
 (some (.inr (.inl (()))))

noncomputable def Bs_LocksOk_2 (p0 : Locks) (s2 : Int) : Option (Int ⊕ (Unit ⊕ (Bool))) :=
 bif (decide (s2 < (((((p0.wait).map eLock).length : Nat) : Int)))) then
 (bnd (getI p0.wait s2) fun x2 =>
 bnd (bif (!(s_l07LockOk x2)) then
 (some true)
 else
 (chk (0 ≤ (0 : Int) ∧ (0 : Int) ≤ s2 ∧ s2 ≤ ((p0.wait).length : Int)) <|
 bnd (s_l07Waits ((⟨[], p0.wait.take ((s2).toNat)⟩ : Locks)) x2.tx) fun r2 =>
 bif r2 then
 (some true)
 else
 (bnd (s_l07Any p0.held x2) fun r3 =>
 bif (!r3) then
 (chk (0 ≤ (0 : Int) ∧ (0 : Int) ≤ s2 ∧ s2 ≤ ((p0.wait).length : Int)) <|
 bnd (s_l07Any (p0.wait.take ((s2).toNat)) x2) fun r4 =>
 some (!r4))
 else
 (some false)))) fun j3 =>
 bif j3 then
 (some (.inr (.inr false)))
 else
 (some (.inl (IntKind.wrap .i64 (s2 + 1)))))
 else
 (some (.inr (.inl (()))))

noncomputable def s_LocksOk (p0 : Locks) : Option (Bool) :=
 bif (decide ((IntKind.wrap .i64 ((((((p0.held).map eLock).length : Nat) : Int)) + (((((p0.wait).map eLock).length : Nat) : Int)))) > 60)) then
 (some false)
 else
 (bndS (loopT (Bs_LocksOk_1 p0) 0) fun j2 =>
 bndS (loopT (Bs_LocksOk_2 p0) 0) fun j4 =>
 some true)
set_option maxHeartbeats 4000000 in
/-- spec.LocksOk -/
theorem k_s_LocksOk (p0 : Locks) (v : Bool) (h : s_LocksOk p0 = some v) : CallOK Try.prog 60 [.agg [.c (.sl 6 ((p0.held).map eLock)), .c (.sl 6 ((p0.wait).map eLock))]] (bV v) [] :=
  callOK tyOK Try.func60 rfl fun w S hS => by
    unfold s_LocksOk at h
    refine a_seq ?_
    refine a_run [1] tyOK (st1 := mk 73 [(1, .one (.pl [(1, 0)] 0 0))] [(1, [.bx [.fz (.sl 6 ((p0.held).map eLock)), .fz (.sl 6 ((p0.wait).map eLock))]])]) (by as_aux_lemma => kernel_rfl) ?_
    refine a_seq ?_
    refine a_seq ?_
    refine a_run [1, 14] tyOK (st1 := mk 73 [(1, .one (.pl [(1, 0)] 0 0)), (14, bV (decide ((IntKind.wrap .i64 ((((((p0.held).map eLock).length : Nat) : Int)) + (((((p0.wait).map eLock).length : Nat) : Int)))) > 60)))] [(1, [.bx [.fz (.sl 6 ((p0.held).map eLock)), .fz (.sl 6 ((p0.wait).map eLock))]])]) (by as_aux_lemma => kernel_rfl) ?_
    refine a_cond (b := decide ((IntKind.wrap .i64 ((((((p0.held).map eLock).length : Nat) : Int)) + (((((p0.wait).map eLock).length : Nat) : Int)))) > 60)) (by as_aux_lemma => kernel_rfl) (fun h1 => ?_) (fun h1 => ?_)
    · replace h := cT h1 h
      refine a_seq ?_
      refine a_run [2] tyOK (st1 := mk 73 [(2, bV false)] []) (by as_aux_lemma => kernel_rfl) ?_
      refine a_ret ?_
      obtain rfl := Option.some.inj h
      exact end_eq (res' := bV false) (by as_aux_lemma => kernel_rfl) (by first | rfl | simp)
    · replace h := cF h1 h
      refine a_skip ?_
      refine a_seq ?_
      refine a_seq ?_
      refine a_run [1, 16, 17, 18] tyOK (st1 := mk 73 [(1, .one (.pl [(1, 0)] 0 0)), (16, .one (.c (.sl 6 ((p0.held).map eLock)))), (17, iV (((((p0.held).map eLock).length : Nat) : Int))), (18, iV 0)] [(1, [.bx [.fz (.sl 6 ((p0.held).map eLock)), .fz (.sl 6 ((p0.wait).map eLock))]])]) (by as_aux_lemma => kernel_rfl) ?_
      obtain ⟨y1, h, ky1, zy1⟩ := bndS_e h
      refine a_joinT (ι := Unit) (fun j => mk 73 [(1, .one (.pl [(1, 0)] 0 0))] [(1, [.bx [.fz (.sl 6 ((p0.held).map eLock)), .fz (.sl 6 ((p0.wait).map eLock))]])]) (fun j => y1 = .inl j) ?_ ?_
      · refine a_block ?_
        refine a_loopT (Bs_LocksOk_1 p0) (fun s1 => mk 73 [(1, .one (.pl [(1, 0)] 0 0)), (16, .one (.c (.sl 6 ((p0.held).map eLock)))), (17, iV (((((p0.held).map eLock).length : Nat) : Int))), (18, iV s1)] [(1, [.bx [.fz (.sl 6 ((p0.held).map eLock)), .fz (.sl 6 ((p0.wait).map eLock))]])]) 0 h ?_ ?_
        · exact imp_keepTo [1, 16, 17, 18] (by as_aux_lemma => kernel_rfl) (imp_done rfl)
        intro s1 y2 h zy2
        unfold Bs_LocksOk_1 at h
        refine a_seq ?_
        refine a_run [1, 16, 17, 18, 19] tyOK (st1 := mk 73 [(1, .one (.pl [(1, 0)] 0 0)), (16, .one (.c (.sl 6 ((p0.held).map eLock)))), (17, iV (((((p0.held).map eLock).length : Nat) : Int))), (18, iV s1), (19, bV (decide (s1 < (((((p0.held).map eLock).length : Nat) : Int)))))] [(1, [.bx [.fz (.sl 6 ((p0.held).map eLock)), .fz (.sl 6 ((p0.wait).map eLock))]])]) (by as_aux_lemma => kernel_rfl) ?_
        refine a_seq ?_
        refine a_cond (b := decide (s1 < (((((p0.held).map eLock).length : Nat) : Int)))) (by as_aux_lemma => kernel_rfl) (fun h2 => ?_) (fun h2 => ?_)
        · replace h := cT h2 h
          refine a_skip ?_
          refine a_seq ?_
          refine a_block ?_
          refine a_seq ?_
          refine a_ops [0, 1, 2, 3, 4, 5] (by as_aux_lemma => kernel_rfl) ?_
          refine ao_some [0] [1, 2, 3, 4, 5] [1, 16, 17, 18, 20] tyOK (st1 := mk 73 [(1, .one (.pl [(1, 0)] 0 0)), (16, .one (.c (.sl 6 ((p0.held).map eLock)))), (17, iV (((((p0.held).map eLock).length : Nat) : Int))), (18, iV s1), (20, iV s1)] [(1, [.bx [.fz (.sl 6 ((p0.held).map eLock)), .fz (.sl 6 ((p0.wait).map eLock))]])]) (by as_aux_lemma => kernel_rfl) ?_
          obtain ⟨x1, ex1, h⟩ := bnd_e h
          refine ao_index (d := 21) (size := 6) (n := s1) (rows := (p0.held).map eLock) (st1 := mk 73 [(1, .one (.pl [(1, 0)] 0 0)), (16, .one (.c (.sl 6 ((p0.held).map eLock)))), (17, iV (((((p0.held).map eLock).length : Nat) : Int))), (18, iV s1), (20, iV s1), (21, .one (.fp [iC x1.tx.c, iC x1.tx.e, iC x1.tx.n, sC x1.range.lo, sC x1.range.hi, bC x1.ex] 0))] [(1, [.bx [.fz (.sl 6 ((p0.held).map eLock)), .fz (.sl 6 ((p0.wait).map eLock))]])]) (eLock x1) [1, 16, 17, 18, 20, 21] tyOK (by as_aux_lemma => kernel_rfl) (getI_e ex1).1 (show ((p0.held).map eLock)[_]? = some _ from by rw [List.getElem?_map, (getI_e ex1).2]; rfl) (by as_aux_lemma => kernel_rfl) (by as_aux_lemma => kernel_rfl) ?_
          refine ao_some [2, 3, 4, 5] [] [1, 3, 4, 16, 17, 18] tyOK (st1 := mk 73 [(1, .one (.pl [(1, 0)] 0 0)), (3, iV s1), (4, .one (.pl [(4, 0)] 0 0)), (16, .one (.c (.sl 6 ((p0.held).map eLock)))), (17, iV (((((p0.held).map eLock).length : Nat) : Int))), (18, iV s1)] [(1, [.bx [.fz (.sl 6 ((p0.held).map eLock)), .fz (.sl 6 ((p0.wait).map eLock))]]), (4, [.bx [iC x1.tx.c, iC x1.tx.e, iC x1.tx.n, sC x1.range.lo, sC x1.range.hi, bC x1.ex]])]) (by as_aux_lemma => kernel_rfl) ?_
          refine ao_nil ?_
          refine a_seq ?_
          obtain ⟨y3, h, ky3⟩ := bndJ_e h
          refine a_joinT (ι := Bool) (fun j => mk 73 [(1, .one (.pl [(1, 0)] 0 0)), (16, .one (.c (.sl 6 ((p0.held).map eLock)))), (17, iV (((((p0.held).map eLock).length : Nat) : Int))), (18, iV s1), (33, bV j)] [(1, [.bx [.fz (.sl 6 ((p0.held).map eLock)), .fz (.sl 6 ((p0.wait).map eLock))]])]) (fun j => y3 = j) ?_ ?_
          · rcases Bool.eq_false_or_eq_true (!(s_l07LockOk x1)) with h3 | h3
            · replace h := cT h3 h
              refine a_mid (mk 73 [(1, .one (.pl [(1, 0)] 0 0)), (16, .one (.c (.sl 6 ((p0.held).map eLock)))), (17, iV (((((p0.held).map eLock).length : Nat) : Int))), (18, iV s1), (33, bV true)] [(1, [.bx [.fz (.sl 6 ((p0.held).map eLock)), .fz (.sl 6 ((p0.wait).map eLock))]])]) ?_ ?_
              · refine a_drawn (n := 11) [] (by as_aux_lemma => kernel_rfl) (by as_aux_lemma => kernel_rfl) ?_
                refine aa_take (fuel := 10) (listed' := #[true, false, false, false, false, false, false, false, false, false, false]) (st' := mk 73 [(1, .one (.pl [(1, 0)] 0 0)), (3, iV s1), (4, .one (.pl [(4, 0)] 0 0)), (16, .one (.c (.sl 6 ((p0.held).map eLock)))), (17, iV (((((p0.held).map eLock).length : Nat) : Int))), (18, iV s1), (23, .agg [.c (iC x1.tx.c), .c (iC x1.tx.e), .c (iC x1.tx.n), .c (sC x1.range.lo), .c (sC x1.range.hi), .c (bC x1.ex)])] [(1, [.bx [.fz (.sl 6 ((p0.held).map eLock)), .fz (.sl 6 ((p0.wait).map eLock))]]), (4, [.bx [iC x1.tx.c, iC x1.tx.e, iC x1.tx.n, sC x1.range.lo, sC x1.range.hi, bC x1.ex]])]) [0] [1, 3, 4, 16, 17, 18, 23] tyOK (by as_aux_lemma => kernel_rfl) (by as_aux_lemma => kernel_rfl) (by as_aux_lemma => kernel_rfl) ?_
                refine aa_all [1] (by as_aux_lemma => kernel_rfl) rfl ?_
                refine aa_cons ?_ aa_nil
                refine aone_enter (listed' := #[true, true, false, false, false, false, false, false, false, false, false]) (f := 61) (d := 24) (A := [.agg [.c (iC x1.tx.c), .c (iC x1.tx.e), .c (iC x1.tx.n), .c (sC x1.range.lo), .c (sC x1.range.hi), .c (bC x1.ex)]]) (st1 := mk 73 [(1, .one (.pl [(1, 0)] 0 0)), (3, iV s1), (4, .one (.pl [(4, 0)] 0 0)), (16, .one (.c (.sl 6 ((p0.held).map eLock)))), (17, iV (((((p0.held).map eLock).length : Nat) : Int))), (18, iV s1), (24, bV (s_l07LockOk x1))] [(1, [.bx [.fz (.sl 6 ((p0.held).map eLock)), .fz (.sl 6 ((p0.wait).map eLock))]]), (4, [.bx [iC x1.tx.c, iC x1.tx.e, iC x1.tx.n, sC x1.range.lo, sC x1.range.hi, bC x1.ex]])]) [1, 3, 4, 16, 17, 18, 24] (k_s_l07LockOk x1 _ rfl) Try.call61 (by as_aux_lemma => kernel_rfl) (by as_aux_lemma => kernel_rfl) (by as_aux_lemma => kernel_rfl) (by as_aux_lemma => kernel_rfl) ?_
                refine aa_take (fuel := 7) (listed' := #[true, true, true, true, false, false, false, false, false, false, false]) (st' := mk 73 [(1, .one (.pl [(1, 0)] 0 0)), (3, iV s1), (4, .one (.pl [(4, 0)] 0 0)), (16, .one (.c (.sl 6 ((p0.held).map eLock)))), (17, iV (((((p0.held).map eLock).length : Nat) : Int))), (18, iV s1), (26, bV (!(s_l07LockOk x1)))] [(1, [.bx [.fz (.sl 6 ((p0.held).map eLock)), .fz (.sl 6 ((p0.wait).map eLock))]]), (4, [.bx [iC x1.tx.c, iC x1.tx.e, iC x1.tx.n, sC x1.range.lo, sC x1.range.hi, bC x1.ex]])]) [2, 3] [1, 3, 4, 16, 17, 18, 26] tyOK (by as_aux_lemma => kernel_rfl) (by as_aux_lemma => kernel_rfl) (by as_aux_lemma => kernel_rfl) ?_
                refine aa_says (k := 26) (t := bV (!(s_l07LockOk x1))) (t' := bV true) (st1 := mk 73 [(1, .one (.pl [(1, 0)] 0 0)), (3, iV s1), (4, .one (.pl [(4, 0)] 0 0)), (16, .one (.c (.sl 6 ((p0.held).map eLock)))), (17, iV (((((p0.held).map eLock).length : Nat) : Int))), (18, iV s1), (26, bV true)] [(1, [.bx [.fz (.sl 6 ((p0.held).map eLock)), .fz (.sl 6 ((p0.wait).map eLock))]]), (4, [.bx [iC x1.tx.c, iC x1.tx.e, iC x1.tx.n, sC x1.range.lo, sC x1.range.hi, bC x1.ex]])]) (by as_aux_lemma => kernel_rfl) (by rw [h3]) (by as_aux_lemma => kernel_rfl) ?_
                refine aa_take (fuel := 2) (listed' := #[true, true, true, true, true, true, true, true, true, false, false]) (st' := mk 73 [(1, .one (.pl [(1, 0)] 0 0)), (16, .one (.c (.sl 6 ((p0.held).map eLock)))), (17, iV (((((p0.held).map eLock).length : Nat) : Int))), (18, iV s1), (26, bV true), (30, .tup []), (31, .tup [])] [(1, [.bx [.fz (.sl 6 ((p0.held).map eLock)), .fz (.sl 6 ((p0.wait).map eLock))]])]) [4, 5, 6, 7, 8] [1, 16, 17, 18, 26, 30, 31] tyOK (by as_aux_lemma => kernel_rfl) (by as_aux_lemma => kernel_rfl) (by as_aux_lemma => kernel_rfl) ?_
                refine aa_all [9] (by as_aux_lemma => kernel_rfl) rfl ?_
                refine aa_cons ?_ aa_nil
                refine aone_any (listed' := #[true, true, true, true, true, true, true, true, true, true, false]) (st1 := mk 73 [(1, .one (.pl [(1, 0)] 0 0)), (16, .one (.c (.sl 6 ((p0.held).map eLock)))), (17, iV (((((p0.held).map eLock).length : Nat) : Int))), (18, iV s1), (26, bV true), (32, .tup [])] [(1, [.bx [.fz (.sl 6 ((p0.held).map eLock)), .fz (.sl 6 ((p0.wait).map eLock))]])]) [1, 16, 17, 18, 26, 32] tyOK (by as_aux_lemma => kernel_rfl) (by as_aux_lemma => kernel_rfl) ?_
                refine aa_take (fuel := 0) (listed' := #[true, true, true, true, true, true, true, true, true, true, true]) (st' := mk 73 [(1, .one (.pl [(1, 0)] 0 0)), (16, .one (.c (.sl 6 ((p0.held).map eLock)))), (17, iV (((((p0.held).map eLock).length : Nat) : Int))), (18, iV s1), (33, bV true)] [(1, [.bx [.fz (.sl 6 ((p0.held).map eLock)), .fz (.sl 6 ((p0.wait).map eLock))]])]) [10] [1, 16, 17, 18, 33] tyOK (by as_aux_lemma => kernel_rfl) (by as_aux_lemma => kernel_rfl) (by as_aux_lemma => kernel_rfl) ?_
                refine aa_done (by as_aux_lemma => kernel_rfl) ?_
                show _ = _; kernel_rfl
              obtain rfl := Option.some.inj h
              show ∃ _, _ ∧ Imp _ _ _
              refine ⟨_, rfl, ?_⟩
              exact imp_keepTo [1, 16, 17, 18, 33] (by as_aux_lemma => kernel_rfl) (imp_done rfl)
            · replace h := cF h3 h
              obtain ⟨c1, h⟩ := chk_e h
              obtain ⟨r1, er1, h⟩ := bnd_e h
              refine a_mid (mk 73 [(1, .one (.pl [(1, 0)] 0 0)), (16, .one (.c (.sl 6 ((p0.held).map eLock)))), (17, iV (((((p0.held).map eLock).length : Nat) : Int))), (18, iV s1), (33, bV r1)] [(1, [.bx [.fz (.sl 6 ((p0.held).map eLock)), .fz (.sl 6 ((p0.wait).map eLock))]])]) ?_ ?_
              · refine a_drawn (n := 11) [] (by as_aux_lemma => kernel_rfl) (by as_aux_lemma => kernel_rfl) ?_
                refine aa_take (fuel := 10) (listed' := #[true, false, false, false, false, false, false, false, false, false, false]) (st' := mk 73 [(1, .one (.pl [(1, 0)] 0 0)), (3, iV s1), (4, .one (.pl [(4, 0)] 0 0)), (16, .one (.c (.sl 6 ((p0.held).map eLock)))), (17, iV (((((p0.held).map eLock).length : Nat) : Int))), (18, iV s1), (23, .agg [.c (iC x1.tx.c), .c (iC x1.tx.e), .c (iC x1.tx.n), .c (sC x1.range.lo), .c (sC x1.range.hi), .c (bC x1.ex)])] [(1, [.bx [.fz (.sl 6 ((p0.held).map eLock)), .fz (.sl 6 ((p0.wait).map eLock))]]), (4, [.bx [iC x1.tx.c, iC x1.tx.e, iC x1.tx.n, sC x1.range.lo, sC x1.range.hi, bC x1.ex]])]) [0] [1, 3, 4, 16, 17, 18, 23] tyOK (by as_aux_lemma => kernel_rfl) (by as_aux_lemma => kernel_rfl) (by as_aux_lemma => kernel_rfl) ?_
                refine aa_all [1] (by as_aux_lemma => kernel_rfl) rfl ?_
                refine aa_cons ?_ aa_nil
                refine aone_enter (listed' := #[true, true, false, false, false, false, false, false, false, false, false]) (f := 61) (d := 24) (A := [.agg [.c (iC x1.tx.c), .c (iC x1.tx.e), .c (iC x1.tx.n), .c (sC x1.range.lo), .c (sC x1.range.hi), .c (bC x1.ex)]]) (st1 := mk 73 [(1, .one (.pl [(1, 0)] 0 0)), (3, iV s1), (4, .one (.pl [(4, 0)] 0 0)), (16, .one (.c (.sl 6 ((p0.held).map eLock)))), (17, iV (((((p0.held).map eLock).length : Nat) : Int))), (18, iV s1), (24, bV (s_l07LockOk x1))] [(1, [.bx [.fz (.sl 6 ((p0.held).map eLock)), .fz (.sl 6 ((p0.wait).map eLock))]]), (4, [.bx [iC x1.tx.c, iC x1.tx.e, iC x1.tx.n, sC x1.range.lo, sC x1.range.hi, bC x1.ex]])]) [1, 3, 4, 16, 17, 18, 24] (k_s_l07LockOk x1 _ rfl) Try.call61 (by as_aux_lemma => kernel_rfl) (by as_aux_lemma => kernel_rfl) (by as_aux_lemma => kernel_rfl) (by as_aux_lemma => kernel_rfl) ?_
                refine aa_take (fuel := 7) (listed' := #[true, true, true, true, false, false, false, false, false, false, false]) (st' := mk 73 [(1, .one (.pl [(1, 0)] 0 0)), (3, iV s1), (4, .one (.pl [(4, 0)] 0 0)), (16, .one (.c (.sl 6 ((p0.held).map eLock)))), (17, iV (((((p0.held).map eLock).length : Nat) : Int))), (18, iV s1), (26, bV (!(s_l07LockOk x1)))] [(1, [.bx [.fz (.sl 6 ((p0.held).map eLock)), .fz (.sl 6 ((p0.wait).map eLock))]]), (4, [.bx [iC x1.tx.c, iC x1.tx.e, iC x1.tx.n, sC x1.range.lo, sC x1.range.hi, bC x1.ex]])]) [2, 3] [1, 3, 4, 16, 17, 18, 26] tyOK (by as_aux_lemma => kernel_rfl) (by as_aux_lemma => kernel_rfl) (by as_aux_lemma => kernel_rfl) ?_
                refine aa_says (k := 26) (t := bV (!(s_l07LockOk x1))) (t' := bV false) (st1 := mk 73 [(1, .one (.pl [(1, 0)] 0 0)), (3, iV s1), (4, .one (.pl [(4, 0)] 0 0)), (16, .one (.c (.sl 6 ((p0.held).map eLock)))), (17, iV (((((p0.held).map eLock).length : Nat) : Int))), (18, iV s1), (26, bV false)] [(1, [.bx [.fz (.sl 6 ((p0.held).map eLock)), .fz (.sl 6 ((p0.wait).map eLock))]]), (4, [.bx [iC x1.tx.c, iC x1.tx.e, iC x1.tx.n, sC x1.range.lo, sC x1.range.hi, bC x1.ex]])]) (by as_aux_lemma => kernel_rfl) (by rw [h3]) (by as_aux_lemma => kernel_rfl) ?_
                refine aa_take (fuel := 3) (listed' := #[true, true, true, true, true, true, true, false, true, false, false]) (st' := mk 73 [(1, .one (.pl [(1, 0)] 0 0)), (16, .one (.c (.sl 6 ((p0.held).map eLock)))), (17, iV (((((p0.held).map eLock).length : Nat) : Int))), (18, iV s1), (26, bV false), (28, .one (.c (.sl 6 ((p0.held).map eLock)))), (29, iV s1), (31, .agg [.c (iC x1.tx.c), .c (iC x1.tx.e), .c (iC x1.tx.n), .c (sC x1.range.lo), .c (sC x1.range.hi), .c (bC x1.ex)])] [(1, [.bx [.fz (.sl 6 ((p0.held).map eLock)), .fz (.sl 6 ((p0.wait).map eLock))]])]) [4, 5, 6, 8] [1, 16, 17, 18, 26, 28, 29, 31] tyOK (by as_aux_lemma => kernel_rfl) (by as_aux_lemma => kernel_rfl) (by as_aux_lemma => kernel_rfl) ?_
                refine aa_q (i := 7) (d := 30) (c := (0 ≤ (0 : Int) ∧ (0 : Int) ≤ s1 ∧ s1 ≤ (((p0.held).map eLock).length : Int) ∧ ((p0.held).map eLock).all (fun r => r.length == 6) = true)) (tv := .one (.c (.sl 6 ((((p0.held).map eLock).take s1.toNat).drop (0 : Int).toNat)))) (listed' := #[true, true, true, true, true, true, true, true, true, false, false]) (st1 := mk 73 [(1, .one (.pl [(1, 0)] 0 0)), (16, .one (.c (.sl 6 ((p0.held).map eLock)))), (17, iV (((((p0.held).map eLock).length : Nat) : Int))), (18, iV s1), (26, bV false), (30, .one (.c (.sl 6 ((((p0.held).map eLock).take s1.toNat).drop (0 : Int).toNat)))), (31, .agg [.c (iC x1.tx.c), .c (iC x1.tx.e), .c (iC x1.tx.n), .c (sC x1.range.lo), .c (sC x1.range.hi), .c (bC x1.ex)])] [(1, [.bx [.fz (.sl 6 ((p0.held).map eLock)), .fz (.sl 6 ((p0.wait).map eLock))]])]) [1, 16, 17, 18, 26, 30, 31] tyOK (by as_aux_lemma => kernel_rfl) (by as_aux_lemma => kernel_rfl) (by simpa [eLock] using c1) (by as_aux_lemma => kernel_rfl) (by as_aux_lemma => kernel_rfl) (by as_aux_lemma => kernel_rfl) ?_
                refine aa_says (k := 30) (t := .one (.c (.sl 6 ((((p0.held).map eLock).take s1.toNat).drop (0 : Int).toNat)))) (t' := .one (.c (.sl 6 ((p0.held.take ((s1).toNat)).map eLock)))) (st1 := mk 73 [(1, .one (.pl [(1, 0)] 0 0)), (16, .one (.c (.sl 6 ((p0.held).map eLock)))), (17, iV (((((p0.held).map eLock).length : Nat) : Int))), (18, iV s1), (26, bV false), (30, .one (.c (.sl 6 ((p0.held.take ((s1).toNat)).map eLock)))), (31, .agg [.c (iC x1.tx.c), .c (iC x1.tx.e), .c (iC x1.tx.n), .c (sC x1.range.lo), .c (sC x1.range.hi), .c (bC x1.ex)])] [(1, [.bx [.fz (.sl 6 ((p0.held).map eLock)), .fz (.sl 6 ((p0.wait).map eLock))]])]) (by as_aux_lemma => kernel_rfl) (by simp [List.map_take, List.map_drop]) (by as_aux_lemma => kernel_rfl) ?_
                refine aa_all [9] (by as_aux_lemma => kernel_rfl) rfl ?_
                refine aa_cons ?_ aa_nil
                refine aone_enter (listed' := #[true, true, true, true, true, true, true, true, true, true, false]) (f := 64) (d := 32) (A := [.one (.c (.sl 6 ((p0.held.take ((s1).toNat)).map eLock))), .agg [.c (iC x1.tx.c), .c (iC x1.tx.e), .c (iC x1.tx.n), .c (sC x1.range.lo), .c (sC x1.range.hi), .c (bC x1.ex)]]) (st1 := mk 73 [(1, .one (.pl [(1, 0)] 0 0)), (16, .one (.c (.sl 6 ((p0.held).map eLock)))), (17, iV (((((p0.held).map eLock).length : Nat) : Int))), (18, iV s1), (26, bV false), (32, bV r1)] [(1, [.bx [.fz (.sl 6 ((p0.held).map eLock)), .fz (.sl 6 ((p0.wait).map eLock))]])]) [1, 16, 17, 18, 26, 32] (k_s_l07Any (p0.held.take ((s1).toNat)) x1 r1 er1) Try.call64 (by as_aux_lemma => kernel_rfl) (by as_aux_lemma => kernel_rfl) (by as_aux_lemma => kernel_rfl) (by as_aux_lemma => kernel_rfl) ?_
                refine aa_take (fuel := 0) (listed' := #[true, true, true, true, true, true, true, true, true, true, true]) (st' := mk 73 [(1, .one (.pl [(1, 0)] 0 0)), (16, .one (.c (.sl 6 ((p0.held).map eLock)))), (17, iV (((((p0.held).map eLock).length : Nat) : Int))), (18, iV s1), (33, bV r1)] [(1, [.bx [.fz (.sl 6 ((p0.held).map eLock)), .fz (.sl 6 ((p0.wait).map eLock))]])]) [10] [1, 16, 17, 18, 33] tyOK (by as_aux_lemma => kernel_rfl) (by as_aux_lemma => kernel_rfl) (by as_aux_lemma => kernel_rfl) ?_
                refine aa_done (by as_aux_lemma => kernel_rfl) ?_
                show _ = _; kernel_rfl
              obtain rfl := Option.some.inj h
              show ∃ _, _ ∧ Imp _ _ _
              refine ⟨_, rfl, ?_⟩
              exact imp_keepTo [1, 16, 17, 18, 33] (by as_aux_lemma => kernel_rfl) (imp_done rfl)
          intro j1 hj1
          replace h := ky3 _ hj1
          refine a_cond (b := j1) (by as_aux_lemma => kernel_rfl) (fun h4 => ?_) (fun h4 => ?_)
          · replace h := cT h4 h
            refine a_seq ?_
            refine a_run [2] tyOK (st1 := mk 73 [(2, bV false)] []) (by as_aux_lemma => kernel_rfl) ?_
            refine a_ret ?_
            obtain rfl := Option.some.inj h
            obtain rfl := zy2 _ rfl
            obtain rfl := zy1 _ rfl
            exact end_eq (res' := bV false) (by as_aux_lemma => kernel_rfl) (by first | rfl | simp)
          · replace h := cF h4 h
            refine a_skip ?_
            refine a_run [1, 16, 17, 18] tyOK (st1 := mk 73 [(1, .one (.pl [(1, 0)] 0 0)), (16, .one (.c (.sl 6 ((p0.held).map eLock)))), (17, iV (((((p0.held).map eLock).length : Nat) : Int))), (18, iV (IntKind.wrap .i64 (s1 + 1)))] [(1, [.bx [.fz (.sl 6 ((p0.held).map eLock)), .fz (.sl 6 ((p0.wait).map eLock))]])]) (by as_aux_lemma => kernel_rfl) ?_
            obtain rfl := Option.some.inj h
            show ∃ _, _ ∧ Imp _ _ _
            refine ⟨_, rfl, ?_⟩
            exact imp_keepTo [1, 16, 17, 18] (by as_aux_lemma => kernel_rfl) (imp_done rfl)
        · replace h := cF h2 h
          refine a_exit ?_
          obtain rfl := Option.some.inj h
          obtain rfl := zy2 _ rfl
          show ∃ _, _ ∧ Imp _ _ _
          refine ⟨_, rfl, ?_⟩
          exact imp_keepTo [1] (by as_aux_lemma => kernel_rfl) (imp_done rfl)
      intro j2 hj2
      replace h := ky1 _ hj2
      refine a_seq ?_
      refine a_seq ?_
      refine a_run [1, 36, 37, 38] tyOK (st1 := mk 73 [(1, .one (.pl [(1, 0)] 0 0)), (36, .one (.c (.sl 6 ((p0.wait).map eLock)))), (37, iV (((((p0.wait).map eLock).length : Nat) : Int))), (38, iV 0)] [(1, [.bx [.fz (.sl 6 ((p0.held).map eLock)), .fz (.sl 6 ((p0.wait).map eLock))]])]) (by as_aux_lemma => kernel_rfl) ?_
      obtain ⟨y4, h, ky4, zy4⟩ := bndS_e h
      refine a_joinT (ι := Unit) (fun j => mk 73 [] []) (fun j => y4 = .inl j) ?_ ?_
      · refine a_block ?_
        refine a_loopT (Bs_LocksOk_2 p0) (fun s2 => mk 73 [(1, .one (.pl [(1, 0)] 0 0)), (36, .one (.c (.sl 6 ((p0.wait).map eLock)))), (37, iV (((((p0.wait).map eLock).length : Nat) : Int))), (38, iV s2)] [(1, [.bx [.fz (.sl 6 ((p0.held).map eLock)), .fz (.sl 6 ((p0.wait).map eLock))]])]) 0 h ?_ ?_
        · exact imp_keepTo [1, 36, 37, 38] (by as_aux_lemma => kernel_rfl) (imp_done rfl)
        intro s2 y5 h zy5
        unfold Bs_LocksOk_2 at h
        refine a_seq ?_
        refine a_run [1, 36, 37, 38, 39] tyOK (st1 := mk 73 [(1, .one (.pl [(1, 0)] 0 0)), (36, .one (.c (.sl 6 ((p0.wait).map eLock)))), (37, iV (((((p0.wait).map eLock).length : Nat) : Int))), (38, iV s2), (39, bV (decide (s2 < (((((p0.wait).map eLock).length : Nat) : Int)))))] [(1, [.bx [.fz (.sl 6 ((p0.held).map eLock)), .fz (.sl 6 ((p0.wait).map eLock))]])]) (by as_aux_lemma => kernel_rfl) ?_
        refine a_seq ?_
        refine a_cond (b := decide (s2 < (((((p0.wait).map eLock).length : Nat) : Int)))) (by as_aux_lemma => kernel_rfl) (fun h5 => ?_) (fun h5 => ?_)
        · replace h := cT h5 h
          refine a_skip ?_
          refine a_seq ?_
          refine a_block ?_
          refine a_seq ?_
          refine a_ops [0, 1, 2, 3, 4, 5] (by as_aux_lemma => kernel_rfl) ?_
          refine ao_some [0] [1, 2, 3, 4, 5] [1, 36, 37, 38, 40] tyOK (st1 := mk 73 [(1, .one (.pl [(1, 0)] 0 0)), (36, .one (.c (.sl 6 ((p0.wait).map eLock)))), (37, iV (((((p0.wait).map eLock).length : Nat) : Int))), (38, iV s2), (40, iV s2)] [(1, [.bx [.fz (.sl 6 ((p0.held).map eLock)), .fz (.sl 6 ((p0.wait).map eLock))]])]) (by as_aux_lemma => kernel_rfl) ?_
          obtain ⟨x2, ex2, h⟩ := bnd_e h
          refine ao_index (d := 41) (size := 6) (n := s2) (rows := (p0.wait).map eLock) (st1 := mk 73 [(1, .one (.pl [(1, 0)] 0 0)), (36, .one (.c (.sl 6 ((p0.wait).map eLock)))), (37, iV (((((p0.wait).map eLock).length : Nat) : Int))), (38, iV s2), (40, iV s2), (41, .one (.fp [iC x2.tx.c, iC x2.tx.e, iC x2.tx.n, sC x2.range.lo, sC x2.range.hi, bC x2.ex] 0))] [(1, [.bx [.fz (.sl 6 ((p0.held).map eLock)), .fz (.sl 6 ((p0.wait).map eLock))]])]) (eLock x2) [1, 36, 37, 38, 40, 41] tyOK (by as_aux_lemma => kernel_rfl) (getI_e ex2).1 (show ((p0.wait).map eLock)[_]? = some _ from by rw [List.getElem?_map, (getI_e ex2).2]; rfl) (by as_aux_lemma => kernel_rfl) (by as_aux_lemma => kernel_rfl) ?_
          refine ao_some [2, 3, 4, 5] [] [1, 5, 6, 36, 37, 38] tyOK (st1 := mk 73 [(1, .one (.pl [(1, 0)] 0 0)), (5, iV s2), (6, .one (.pl [(6, 0)] 0 0)), (36, .one (.c (.sl 6 ((p0.wait).map eLock)))), (37, iV (((((p0.wait).map eLock).length : Nat) : Int))), (38, iV s2)] [(1, [.bx [.fz (.sl 6 ((p0.held).map eLock)), .fz (.sl 6 ((p0.wait).map eLock))]]), (6, [.bx [iC x2.tx.c, iC x2.tx.e, iC x2.tx.n, sC x2.range.lo, sC x2.range.hi, bC x2.ex]])]) (by as_aux_lemma => kernel_rfl) ?_
          refine ao_nil ?_
          refine a_seq ?_
          obtain ⟨y6, h, ky6⟩ := bndJ_e h
          refine a_joinT (ι := Bool) (fun j => mk 73 [(1, .one (.pl [(1, 0)] 0 0)), (36, .one (.c (.sl 6 ((p0.wait).map eLock)))), (37, iV (((((p0.wait).map eLock).length : Nat) : Int))), (38, iV s2), (71, bV j)] [(1, [.bx [.fz (.sl 6 ((p0.held).map eLock)), .fz (.sl 6 ((p0.wait).map eLock))]])]) (fun j => y6 = j) ?_ ?_
          · rcases Bool.eq_false_or_eq_true (!(s_l07LockOk x2)) with h6 | h6
            · replace h := cT h6 h
              refine a_mid (mk 73 [(1, .one (.pl [(1, 0)] 0 0)), (36, .one (.c (.sl 6 ((p0.wait).map eLock)))), (37, iV (((((p0.wait).map eLock).length : Nat) : Int))), (38, iV s2), (71, bV true)] [(1, [.bx [.fz (.sl 6 ((p0.held).map eLock)), .fz (.sl 6 ((p0.wait).map eLock))]])]) ?_ ?_
              · refine a_drawn (n := 29) [] (by as_aux_lemma => kernel_rfl) (by as_aux_lemma => kernel_rfl) ?_
                refine aa_take (fuel := 28) (listed' := #[true, false, false, false, false, false, false, false, false, false, false, false, false, false, false, false, false, false, false, false, false, false, false, false, false, false, false, false, false]) (st' := mk 73 [(1, .one (.pl [(1, 0)] 0 0)), (5, iV s2), (6, .one (.pl [(6, 0)] 0 0)), (36, .one (.c (.sl 6 ((p0.wait).map eLock)))), (37, iV (((((p0.wait).map eLock).length : Nat) : Int))), (38, iV s2), (43, .agg [.c (iC x2.tx.c), .c (iC x2.tx.e), .c (iC x2.tx.n), .c (sC x2.range.lo), .c (sC x2.range.hi), .c (bC x2.ex)])] [(1, [.bx [.fz (.sl 6 ((p0.held).map eLock)), .fz (.sl 6 ((p0.wait).map eLock))]]), (6, [.bx [iC x2.tx.c, iC x2.tx.e, iC x2.tx.n, sC x2.range.lo, sC x2.range.hi, bC x2.ex]])]) [0] [1, 5, 6, 36, 37, 38, 43] tyOK (by as_aux_lemma => kernel_rfl) (by as_aux_lemma => kernel_rfl) (by as_aux_lemma => kernel_rfl) ?_
                refine aa_all [1] (by as_aux_lemma => kernel_rfl) rfl ?_
                refine aa_cons ?_ aa_nil
                refine aone_enter (listed' := #[true, true, false, false, false, false, false, false, false, false, false, false, false, false, false, false, false, false, false, false, false, false, false, false, false, false, false, false, false]) (f := 61) (d := 44) (A := [.agg [.c (iC x2.tx.c), .c (iC x2.tx.e), .c (iC x2.tx.n), .c (sC x2.range.lo), .c (sC x2.range.hi), .c (bC x2.ex)]]) (st1 := mk 73 [(1, .one (.pl [(1, 0)] 0 0)), (5, iV s2), (6, .one (.pl [(6, 0)] 0 0)), (36, .one (.c (.sl 6 ((p0.wait).map eLock)))), (37, iV (((((p0.wait).map eLock).length : Nat) : Int))), (38, iV s2), (44, bV (s_l07LockOk x2))] [(1, [.bx [.fz (.sl 6 ((p0.held).map eLock)), .fz (.sl 6 ((p0.wait).map eLock))]]), (6, [.bx [iC x2.tx.c, iC x2.tx.e, iC x2.tx.n, sC x2.range.lo, sC x2.range.hi, bC x2.ex]])]) [1, 5, 6, 36, 37, 38, 44] (k_s_l07LockOk x2 _ rfl) Try.call61 (by as_aux_lemma => kernel_rfl) (by as_aux_lemma => kernel_rfl) (by as_aux_lemma => kernel_rfl) (by as_aux_lemma => kernel_rfl) ?_
                refine aa_take (fuel := 25) (listed' := #[true, true, true, true, false, false, false, false, false, false, false, false, false, false, false, false, false, false, false, false, false, false, false, false, false, false, false, false, false]) (st' := mk 73 [(1, .one (.pl [(1, 0)] 0 0)), (5, iV s2), (6, .one (.pl [(6, 0)] 0 0)), (36, .one (.c (.sl 6 ((p0.wait).map eLock)))), (37, iV (((((p0.wait).map eLock).length : Nat) : Int))), (38, iV s2), (46, bV (!(s_l07LockOk x2)))] [(1, [.bx [.fz (.sl 6 ((p0.held).map eLock)), .fz (.sl 6 ((p0.wait).map eLock))]]), (6, [.bx [iC x2.tx.c, iC x2.tx.e, iC x2.tx.n, sC x2.range.lo, sC x2.range.hi, bC x2.ex]])]) [2, 3] [1, 5, 6, 36, 37, 38, 46] tyOK (by as_aux_lemma => kernel_rfl) (by as_aux_lemma => kernel_rfl) (by as_aux_lemma => kernel_rfl) ?_
                refine aa_says (k := 46) (t := bV (!(s_l07LockOk x2))) (t' := bV true) (st1 := mk 73 [(1, .one (.pl [(1, 0)] 0 0)), (5, iV s2), (6, .one (.pl [(6, 0)] 0 0)), (36, .one (.c (.sl 6 ((p0.wait).map eLock)))), (37, iV (((((p0.wait).map eLock).length : Nat) : Int))), (38, iV s2), (46, bV true)] [(1, [.bx [.fz (.sl 6 ((p0.held).map eLock)), .fz (.sl 6 ((p0.wait).map eLock))]]), (6, [.bx [iC x2.tx.c, iC x2.tx.e, iC x2.tx.n, sC x2.range.lo, sC x2.range.hi, bC x2.ex]])]) (by as_aux_lemma => kernel_rfl) (by rw [h6]) (by as_aux_lemma => kernel_rfl) ?_
                refine aa_take (fuel := 18) (listed' := #[true, true, true, true, true, true, true, true, true, true, true, false, false, false, false, false, false, false, false, false, false, false, false, false, false, false, false, false, false]) (st' := mk 73 [(1, .one (.pl [(1, 0)] 0 0)), (5, iV s2), (6, .one (.pl [(6, 0)] 0 0)), (36, .one (.c (.sl 6 ((p0.wait).map eLock)))), (37, iV (((((p0.wait).map eLock).length : Nat) : Int))), (38, iV s2), (46, bV true), (51, .tup []), (53, .tup [])] [(1, [.bx [.fz (.sl 6 ((p0.held).map eLock)), .fz (.sl 6 ((p0.wait).map eLock))]]), (6, [.bx [iC x2.tx.c, iC x2.tx.e, iC x2.tx.n, sC x2.range.lo, sC x2.range.hi, bC x2.ex]])]) [4, 5, 6, 7, 8, 9, 10] [1, 5, 6, 36, 37, 38, 46, 51, 53] tyOK (by as_aux_lemma => kernel_rfl) (by as_aux_lemma => kernel_rfl) (by as_aux_lemma => kernel_rfl) ?_
                refine aa_all [11] (by as_aux_lemma => kernel_rfl) rfl ?_
                refine aa_cons ?_ aa_nil
                refine aone_any (listed' := #[true, true, true, true, true, true, true, true, true, true, true, true, false, false, false, false, false, false, false, false, false, false, false, false, false, false, false, false, false]) (st1 := mk 73 [(1, .one (.pl [(1, 0)] 0 0)), (5, iV s2), (6, .one (.pl [(6, 0)] 0 0)), (36, .one (.c (.sl 6 ((p0.wait).map eLock)))), (37, iV (((((p0.wait).map eLock).length : Nat) : Int))), (38, iV s2), (46, bV true), (54, .tup [])] [(1, [.bx [.fz (.sl 6 ((p0.held).map eLock)), .fz (.sl 6 ((p0.wait).map eLock))]]), (6, [.bx [iC x2.tx.c, iC x2.tx.e, iC x2.tx.n, sC x2.range.lo, sC x2.range.hi, bC x2.ex]])]) [1, 5, 6, 36, 37, 38, 46, 54] tyOK (by as_aux_lemma => kernel_rfl) (by as_aux_lemma => kernel_rfl) ?_
                refine aa_take (fuel := 12) (listed' := #[true, true, true, true, true, true, true, true, true, true, true, true, true, true, true, true, true, false, false, false, false, false, false, false, false, false, false, false, false]) (st' := mk 73 [(1, .one (.pl [(1, 0)] 0 0)), (5, iV s2), (6, .one (.pl [(6, 0)] 0 0)), (36, .one (.c (.sl 6 ((p0.wait).map eLock)))), (37, iV (((((p0.wait).map eLock).length : Nat) : Int))), (38, iV s2), (56, bV true), (58, .tup []), (59, .tup [])] [(1, [.bx [.fz (.sl 6 ((p0.held).map eLock)), .fz (.sl 6 ((p0.wait).map eLock))]]), (6, [.bx [iC x2.tx.c, iC x2.tx.e, iC x2.tx.n, sC x2.range.lo, sC x2.range.hi, bC x2.ex]])]) [12, 13, 14, 15, 16] [1, 5, 6, 36, 37, 38, 56, 58, 59] tyOK (by as_aux_lemma => kernel_rfl) (by as_aux_lemma => kernel_rfl) (by as_aux_lemma => kernel_rfl) ?_
                refine aa_all [17] (by as_aux_lemma => kernel_rfl) rfl ?_
                refine aa_cons ?_ aa_nil
                refine aone_any (listed' := #[true, true, true, true, true, true, true, true, true, true, true, true, true, true, true, true, true, true, false, false, false, false, false, false, false, false, false, false, false]) (st1 := mk 73 [(1, .one (.pl [(1, 0)] 0 0)), (5, iV s2), (6, .one (.pl [(6, 0)] 0 0)), (36, .one (.c (.sl 6 ((p0.wait).map eLock)))), (37, iV (((((p0.wait).map eLock).length : Nat) : Int))), (38, iV s2), (56, bV true), (60, .tup [])] [(1, [.bx [.fz (.sl 6 ((p0.held).map eLock)), .fz (.sl 6 ((p0.wait).map eLock))]]), (6, [.bx [iC x2.tx.c, iC x2.tx.e, iC x2.tx.n, sC x2.range.lo, sC x2.range.hi, bC x2.ex]])]) [1, 5, 6, 36, 37, 38, 56, 60] tyOK (by as_aux_lemma => kernel_rfl) (by as_aux_lemma => kernel_rfl) ?_
                refine aa_take (fuel := 4) (listed' := #[true, true, true, true, true, true, true, true, true, true, true, true, true, true, true, true, true, true, true, true, true, true, true, true, true, false, false, false, false]) (st' := mk 73 [(1, .one (.pl [(1, 0)] 0 0)), (36, .one (.c (.sl 6 ((p0.wait).map eLock)))), (37, iV (((((p0.wait).map eLock).length : Nat) : Int))), (38, iV s2), (56, bV true), (62, .tup []), (66, .tup []), (67, .tup [])] [(1, [.bx [.fz (.sl 6 ((p0.held).map eLock)), .fz (.sl 6 ((p0.wait).map eLock))]])]) [18, 19, 20, 21, 22, 23, 24] [1, 36, 37, 38, 56, 62, 66, 67] tyOK (by as_aux_lemma => kernel_rfl) (by as_aux_lemma => kernel_rfl) (by as_aux_lemma => kernel_rfl) ?_
                refine aa_all [25] (by as_aux_lemma => kernel_rfl) rfl ?_
                refine aa_cons ?_ aa_nil
                refine aone_any (listed' := #[true, true, true, true, true, true, true, true, true, true, true, true, true, true, true, true, true, true, true, true, true, true, true, true, true, true, false, false, false]) (st1 := mk 73 [(1, .one (.pl [(1, 0)] 0 0)), (36, .one (.c (.sl 6 ((p0.wait).map eLock)))), (37, iV (((((p0.wait).map eLock).length : Nat) : Int))), (38, iV s2), (56, bV true), (62, .tup []), (68, .tup [])] [(1, [.bx [.fz (.sl 6 ((p0.held).map eLock)), .fz (.sl 6 ((p0.wait).map eLock))]])]) [1, 36, 37, 38, 56, 62, 68] tyOK (by as_aux_lemma => kernel_rfl) (by as_aux_lemma => kernel_rfl) ?_
                refine aa_take (fuel := 0) (listed' := #[true, true, true, true, true, true, true, true, true, true, true, true, true, true, true, true, true, true, true, true, true, true, true, true, true, true, true, true, true]) (st' := mk 73 [(1, .one (.pl [(1, 0)] 0 0)), (36, .one (.c (.sl 6 ((p0.wait).map eLock)))), (37, iV (((((p0.wait).map eLock).length : Nat) : Int))), (38, iV s2), (71, bV true)] [(1, [.bx [.fz (.sl 6 ((p0.held).map eLock)), .fz (.sl 6 ((p0.wait).map eLock))]])]) [26, 27, 28] [1, 36, 37, 38, 71] tyOK (by as_aux_lemma => kernel_rfl) (by as_aux_lemma => kernel_rfl) (by as_aux_lemma => kernel_rfl) ?_
                refine aa_done (by as_aux_lemma => kernel_rfl) ?_
                show _ = _; kernel_rfl
              obtain rfl := Option.some.inj h
              show ∃ _, _ ∧ Imp _ _ _
              refine ⟨_, rfl, ?_⟩
              exact imp_keepTo [1, 36, 37, 38, 71] (by as_aux_lemma => kernel_rfl) (imp_done rfl)
            · replace h := cF h6 h
              obtain ⟨c2, h⟩ := chk_e h
              obtain ⟨r2, er2, h⟩ := bnd_e h
              rcases Bool.eq_false_or_eq_true (r2) with h7 | h7
              · replace h := cT h7 h
                refine a_mid (mk 73 [(1, .one (.pl [(1, 0)] 0 0)), (36, .one (.c (.sl 6 ((p0.wait).map eLock)))), (37, iV (((((p0.wait).map eLock).length : Nat) : Int))), (38, iV s2), (71, bV true)] [(1, [.bx [.fz (.sl 6 ((p0.held).map eLock)), .fz (.sl 6 ((p0.wait).map eLock))]])]) ?_ ?_
                · refine a_drawn (n := 29) [] (by as_aux_lemma => kernel_rfl) (by as_aux_lemma => kernel_rfl) ?_
                  refine aa_take (fuel := 28) (listed' := #[true, false, false, false, false, false, false, false, false, false, false, false, false, false, false, false, false, false, false, false, false, false, false, false, false, false, false, false, false]) (st' := mk 73 [(1, .one (.pl [(1, 0)] 0 0)), (5, iV s2), (6, .one (.pl [(6, 0)] 0 0)), (36, .one (.c (.sl 6 ((p0.wait).map eLock)))), (37, iV (((((p0.wait).map eLock).length : Nat) : Int))), (38, iV s2), (43, .agg [.c (iC x2.tx.c), .c (iC x2.tx.e), .c (iC x2.tx.n), .c (sC x2.range.lo), .c (sC x2.range.hi), .c (bC x2.ex)])] [(1, [.bx [.fz (.sl 6 ((p0.held).map eLock)), .fz (.sl 6 ((p0.wait).map eLock))]]), (6, [.bx [iC x2.tx.c, iC x2.tx.e, iC x2.tx.n, sC x2.range.lo, sC x2.range.hi, bC x2.ex]])]) [0] [1, 5, 6, 36, 37, 38, 43] tyOK (by as_aux_lemma => kernel_rfl) (by as_aux_lemma => kernel_rfl) (by as_aux_lemma => kernel_rfl) ?_
                  refine aa_all [1] (by as_aux_lemma => kernel_rfl) rfl ?_
                  refine aa_cons ?_ aa_nil
                  refine aone_enter (listed' := #[true, true, false, false, false, false, false, false, false, false, false, false, false, false, false, false, false, false, false, false, false, false, false, false, false, false, false, false, false]) (f := 61) (d := 44) (A := [.agg [.c (iC x2.tx.c), .c (iC x2.tx.e), .c (iC x2.tx.n), .c (sC x2.range.lo), .c (sC x2.range.hi), .c (bC x2.ex)]]) (st1 := mk 73 [(1, .one (.pl [(1, 0)] 0 0)), (5, iV s2), (6, .one (.pl [(6, 0)] 0 0)), (36, .one (.c (.sl 6 ((p0.wait).map eLock)))), (37, iV (((((p0.wait).map eLock).length : Nat) : Int))), (38, iV s2), (44, bV (s_l07LockOk x2))] [(1, [.bx [.fz (.sl 6 ((p0.held).map eLock)), .fz (.sl 6 ((p0.wait).map eLock))]]), (6, [.bx [iC x2.tx.c, iC x2.tx.e, iC x2.tx.n, sC x2.range.lo, sC x2.range.hi, bC x2.ex]])]) [1, 5, 6, 36, 37, 38, 44] (k_s_l07LockOk x2 _ rfl) Try.call61 (by as_aux_lemma => kernel_rfl) (by as_aux_lemma => kernel_rfl) (by as_aux_lemma => kernel_rfl) (by as_aux_lemma => kernel_rfl) ?_
                  refine aa_take (fuel := 25) (listed' := #[true, true, true, true, false, false, false, false, false, false, false, false, false, false, false, false, false, false, false, false, false, false, false, false, false, false, false, false, false]) (st' := mk 73 [(1, .one (.pl [(1, 0)] 0 0)), (5, iV s2), (6, .one (.pl [(6, 0)] 0 0)), (36, .one (.c (.sl 6 ((p0.wait).map eLock)))), (37, iV (((((p0.wait).map eLock).length : Nat) : Int))), (38, iV s2), (46, bV (!(s_l07LockOk x2)))] [(1, [.bx [.fz (.sl 6 ((p0.held).map eLock)), .fz (.sl 6 ((p0.wait).map eLock))]]), (6, [.bx [iC x2.tx.c, iC x2.tx.e, iC x2.tx.n, sC x2.range.lo, sC x2.range.hi, bC x2.ex]])]) [2, 3] [1, 5, 6, 36, 37, 38, 46] tyOK (by as_aux_lemma => kernel_rfl) (by as_aux_lemma => kernel_rfl) (by as_aux_lemma => kernel_rfl) ?_
                  refine aa_says (k := 46) (t := bV (!(s_l07LockOk x2))) (t' := bV false) (st1 := mk 73 [(1, .one (.pl [(1, 0)] 0 0)), (5, iV s2), (6, .one (.pl [(6, 0)] 0 0)), (36, .one (.c (.sl 6 ((p0.wait).map eLock)))), (37, iV (((((p0.wait).map eLock).length : Nat) : Int))), (38, iV s2), (46, bV false)] [(1, [.bx [.fz (.sl 6 ((p0.held).map eLock)), .fz (.sl 6 ((p0.wait).map eLock))]]), (6, [.bx [iC x2.tx.c, iC x2.tx.e, iC x2.tx.n, sC x2.range.lo, sC x2.range.hi, bC x2.ex]])]) (by as_aux_lemma => kernel_rfl) (by rw [h6]) (by as_aux_lemma => kernel_rfl) ?_
                  refine aa_take (fuel := 20) (listed' := #[true, true, true, true, true, true, true, false, false, true, true, false, false, false, false, false, false, false, false, false, false, false, false, false, false, false, false, false, false]) (st' := mk 73 [(1, .one (.pl [(1, 0)] 0 0)), (5, iV s2), (6, .one (.pl [(6, 0)] 0 0)), (36, .one (.c (.sl 6 ((p0.wait).map eLock)))), (37, iV (((((p0.wait).map eLock).length : Nat) : Int))), (38, iV s2), (46, bV false), (48, .one (.c (.sl 6 ((p0.wait).map eLock)))), (49, iV s2), (53, .agg [.c (iC x2.tx.c), .c (iC x2.tx.e), .c (iC x2.tx.n)])] [(1, [.bx [.fz (.sl 6 ((p0.held).map eLock)), .fz (.sl 6 ((p0.wait).map eLock))]]), (6, [.bx [iC x2.tx.c, iC x2.tx.e, iC x2.tx.n, sC x2.range.lo, sC x2.range.hi, bC x2.ex]])]) [4, 5, 6, 9, 10] [1, 5, 6, 36, 37, 38, 46, 48, 49, 53] tyOK (by as_aux_lemma => kernel_rfl) (by as_aux_lemma => kernel_rfl) (by as_aux_lemma => kernel_rfl) ?_
                  refine aa_q (i := 7) (d := 50) (c := (0 ≤ (0 : Int) ∧ (0 : Int) ≤ s2 ∧ s2 ≤ (((p0.wait).map eLock).length : Int) ∧ ((p0.wait).map eLock).all (fun r => r.length == 6) = true)) (tv := .one (.c (.sl 6 ((((p0.wait).map eLock).take s2.toNat).drop (0 : Int).toNat)))) (listed' := #[true, true, true, true, true, true, true, true, false, true, true, false, false, false, false, false, false, false, false, false, false, false, false, false, false, false, false, false, false]) (st1 := mk 73 [(1, .one (.pl [(1, 0)] 0 0)), (5, iV s2), (6, .one (.pl [(6, 0)] 0 0)), (36, .one (.c (.sl 6 ((p0.wait).map eLock)))), (37, iV (((((p0.wait).map eLock).length : Nat) : Int))), (38, iV s2), (46, bV false), (50, .one (.c (.sl 6 ((((p0.wait).map eLock).take s2.toNat).drop (0 : Int).toNat)))), (53, .agg [.c (iC x2.tx.c), .c (iC x2.tx.e), .c (iC x2.tx.n)])] [(1, [.bx [.fz (.sl 6 ((p0.held).map eLock)), .fz (.sl 6 ((p0.wait).map eLock))]]), (6, [.bx [iC x2.tx.c, iC x2.tx.e, iC x2.tx.n, sC x2.range.lo, sC x2.range.hi, bC x2.ex]])]) [1, 5, 6, 36, 37, 38, 46, 50, 53] tyOK (by as_aux_lemma => kernel_rfl) (by as_aux_lemma => kernel_rfl) (by simpa [eLock] using c2) (by as_aux_lemma => kernel_rfl) (by as_aux_lemma => kernel_rfl) (by as_aux_lemma => kernel_rfl) ?_
                  refine aa_says (k := 50) (t := .one (.c (.sl 6 ((((p0.wait).map eLock).take s2.toNat).drop (0 : Int).toNat)))) (t' := .one (.c (.sl 6 ((p0.wait.take ((s2).toNat)).map eLock)))) (st1 := mk 73 [(1, .one (.pl [(1, 0)] 0 0)), (5, iV s2), (6, .one (.pl [(6, 0)] 0 0)), (36, .one (.c (.sl 6 ((p0.wait).map eLock)))), (37, iV (((((p0.wait).map eLock).length : Nat) : Int))), (38, iV s2), (46, bV false), (50, .one (.c (.sl 6 ((p0.wait.take ((s2).toNat)).map eLock)))), (53, .agg [.c (iC x2.tx.c), .c (iC x2.tx.e), .c (iC x2.tx.n)])] [(1, [.bx [.fz (.sl 6 ((p0.held).map eLock)), .fz (.sl 6 ((p0.wait).map eLock))]]), (6, [.bx [iC x2.tx.c, iC x2.tx.e, iC x2.tx.n, sC x2.range.lo, sC x2.range.hi, bC x2.ex]])]) (by as_aux_lemma => kernel_rfl) (by simp [List.map_take, List.map_drop]) (by as_aux_lemma => kernel_rfl) ?_
                  refine aa_all [8] (by as_aux_lemma => kernel_rfl) rfl ?_
                  refine aa_cons ?_ aa_nil
                  refine aone_any (listed' := #[true, true, true, true, true, true, true, true, true, true, true, false, false, false, false, false, false, false, false, false, false, false, false, false, false, false, false, false, false]) (st1 := mk 73 [(1, .one (.pl [(1, 0)] 0 0)), (5, iV s2), (6, .one (.pl [(6, 0)] 0 0)), (36, .one (.c (.sl 6 ((p0.wait).map eLock)))), (37, iV (((((p0.wait).map eLock).length : Nat) : Int))), (38, iV s2), (46, bV false), (51, .agg [.c (.v (.slice none 0 0)), .c (.sl 6 ((p0.wait.take ((s2).toNat)).map eLock))]), (53, .agg [.c (iC x2.tx.c), .c (iC x2.tx.e), .c (iC x2.tx.n)])] [(1, [.bx [.fz (.sl 6 ((p0.held).map eLock)), .fz (.sl 6 ((p0.wait).map eLock))]]), (6, [.bx [iC x2.tx.c, iC x2.tx.e, iC x2.tx.n, sC x2.range.lo, sC x2.range.hi, bC x2.ex]])]) [1, 5, 6, 36, 37, 38, 46, 51, 53] tyOK (by as_aux_lemma => kernel_rfl) (by as_aux_lemma => kernel_rfl) ?_
                  refine aa_all [11] (by as_aux_lemma => kernel_rfl) rfl ?_
                  refine aa_cons ?_ aa_nil
                  refine aone_lend (listed' := #[true, true, true, true, true, true, true, true, true, true, true, true, false, false, false, false, false, false, false, false, false, false, false, false, false, false, false, false, false]) (f := 62) (d := 54) (A := [.agg [.c (.v (.slice none 0 0)), .c (.sl 6 ((p0.wait.take ((s2).toNat)).map eLock))], .agg [.c (iC x2.tx.c), .c (iC x2.tx.e), .c (iC x2.tx.n)]]) (A' := [.agg [.c (.sl 6 ([])), .c (.sl 6 ((p0.wait.take ((s2).toNat)).map eLock))], .agg [.c (iC x2.tx.c), .c (iC x2.tx.e), .c (iC x2.tx.n)]]) (st1 := mk 73 [(1, .one (.pl [(1, 0)] 0 0)), (5, iV s2), (6, .one (.pl [(6, 0)] 0 0)), (36, .one (.c (.sl 6 ((p0.wait).map eLock)))), (37, iV (((((p0.wait).map eLock).length : Nat) : Int))), (38, iV s2), (46, bV false), (54, bV r2)] [(1, [.bx [.fz (.sl 6 ((p0.held).map eLock)), .fz (.sl 6 ((p0.wait).map eLock))]]), (6, [.bx [iC x2.tx.c, iC x2.tx.e, iC x2.tx.n, sC x2.range.lo, sC x2.range.hi, bC x2.ex]])]) [1, 5, 6, 36, 37, 38, 46, 54] (k_s_l07Waits ((⟨[], p0.wait.take ((s2).toNat)⟩ : Locks)) x2.tx r2 er2) Try.call62 (by as_aux_lemma => kernel_rfl) (.cons (.agg (.cons .nilv (.cons (.same rfl) .nil))) (.cons (.agg (.cons (.same rfl) (.cons (.same rfl) (.cons (.same rfl) .nil)))) .nil)) (by as_aux_lemma => kernel_rfl) (clean_nil) (by as_aux_lemma => kernel_rfl) (by as_aux_lemma => kernel_rfl) (by as_aux_lemma => kernel_rfl) ?_
                  refine aa_take (fuel := 15) (listed' := #[true, true, true, true, true, true, true, true, true, true, true, true, true, true, false, false, false, false, false, false, false, false, false, false, false, false, false, false, false]) (st' := mk 73 [(1, .one (.pl [(1, 0)] 0 0)), (5, iV s2), (6, .one (.pl [(6, 0)] 0 0)), (36, .one (.c (.sl 6 ((p0.wait).map eLock)))), (37, iV (((((p0.wait).map eLock).length : Nat) : Int))), (38, iV s2), (56, bV r2)] [(1, [.bx [.fz (.sl 6 ((p0.held).map eLock)), .fz (.sl 6 ((p0.wait).map eLock))]]), (6, [.bx [iC x2.tx.c, iC x2.tx.e, iC x2.tx.n, sC x2.range.lo, sC x2.range.hi, bC x2.ex]])]) [12, 13] [1, 5, 6, 36, 37, 38, 56] tyOK (by as_aux_lemma => kernel_rfl) (by as_aux_lemma => kernel_rfl) (by as_aux_lemma => kernel_rfl) ?_
                  refine aa_says (k := 56) (t := bV r2) (t' := bV true) (st1 := mk 73 [(1, .one (.pl [(1, 0)] 0 0)), (5, iV s2), (6, .one (.pl [(6, 0)] 0 0)), (36, .one (.c (.sl 6 ((p0.wait).map eLock)))), (37, iV (((((p0.wait).map eLock).length : Nat) : Int))), (38, iV s2), (56, bV true)] [(1, [.bx [.fz (.sl 6 ((p0.held).map eLock)), .fz (.sl 6 ((p0.wait).map eLock))]]), (6, [.bx [iC x2.tx.c, iC x2.tx.e, iC x2.tx.n, sC x2.range.lo, sC x2.range.hi, bC x2.ex]])]) (by as_aux_lemma => kernel_rfl) (by rw [h7]) (by as_aux_lemma => kernel_rfl) ?_
                  refine aa_take (fuel := 12) (listed' := #[true, true, true, true, true, true, true, true, true, true, true, true, true, true, true, true, true, false, false, false, false, false, false, false, false, false, false, false, false]) (st' := mk 73 [(1, .one (.pl [(1, 0)] 0 0)), (5, iV s2), (6, .one (.pl [(6, 0)] 0 0)), (36, .one (.c (.sl 6 ((p0.wait).map eLock)))), (37, iV (((((p0.wait).map eLock).length : Nat) : Int))), (38, iV s2), (56, bV true), (58, .tup []), (59, .tup [])] [(1, [.bx [.fz (.sl 6 ((p0.held).map eLock)), .fz (.sl 6 ((p0.wait).map eLock))]]), (6, [.bx [iC x2.tx.c, iC x2.tx.e, iC x2.tx.n, sC x2.range.lo, sC x2.range.hi, bC x2.ex]])]) [14, 15, 16] [1, 5, 6, 36, 37, 38, 56, 58, 59] tyOK (by as_aux_lemma => kernel_rfl) (by as_aux_lemma => kernel_rfl) (by as_aux_lemma => kernel_rfl) ?_
                  refine aa_all [17] (by as_aux_lemma => kernel_rfl) rfl ?_
                  refine aa_cons ?_ aa_nil
                  refine aone_any (listed' := #[true, true, true, true, true, true, true, true, true, true, true, true, true, true, true, true, true, true, false, false, false, false, false, false, false, false, false, false, false]) (st1 := mk 73 [(1, .one (.pl [(1, 0)] 0 0)), (5, iV s2), (6, .one (.pl [(6, 0)] 0 0)), (36, .one (.c (.sl 6 ((p0.wait).map eLock)))), (37, iV (((((p0.wait).map eLock).length : Nat) : Int))), (38, iV s2), (56, bV true), (60, .tup [])] [(1, [.bx [.fz (.sl 6 ((p0.held).map eLock)), .fz (.sl 6 ((p0.wait).map eLock))]]), (6, [.bx [iC x2.tx.c, iC x2.tx.e, iC x2.tx.n, sC x2.range.lo, sC x2.range.hi, bC x2.ex]])]) [1, 5, 6, 36, 37, 38, 56, 60] tyOK (by as_aux_lemma => kernel_rfl) (by as_aux_lemma => kernel_rfl) ?_
                  refine aa_take (fuel := 4) (listed' := #[true, true, true, true, true, true, true, true, true, true, true, true, true, true, true, true, true, true, true, true, true, true, true, true, true, false, false, false, false]) (st' := mk 73 [(1, .one (.pl [(1, 0)] 0 0)), (36, .one (.c (.sl 6 ((p0.wait).map eLock)))), (37, iV (((((p0.wait).map eLock).length : Nat) : Int))), (38, iV s2), (56, bV true), (62, .tup []), (66, .tup []), (67, .tup [])] [(1, [.bx [.fz (.sl 6 ((p0.held).map eLock)), .fz (.sl 6 ((p0.wait).map eLock))]])]) [18, 19, 20, 21, 22, 23, 24] [1, 36, 37, 38, 56, 62, 66, 67] tyOK (by as_aux_lemma => kernel_rfl) (by as_aux_lemma => kernel_rfl) (by as_aux_lemma => kernel_rfl) ?_
                  refine aa_all [25] (by as_aux_lemma => kernel_rfl) rfl ?_
                  refine aa_cons ?_ aa_nil
                  refine aone_any (listed' := #[true, true, true, true, true, true, true, true, true, true, true, true, true, true, true, true, true, true, true, true, true, true, true, true, true, true, false, false, false]) (st1 := mk 73 [(1, .one (.pl [(1, 0)] 0 0)), (36, .one (.c (.sl 6 ((p0.wait).map eLock)))), (37, iV (((((p0.wait).map eLock).length : Nat) : Int))), (38, iV s2), (56, bV true), (62, .tup []), (68, .tup [])] [(1, [.bx [.fz (.sl 6 ((p0.held).map eLock)), .fz (.sl 6 ((p0.wait).map eLock))]])]) [1, 36, 37, 38, 56, 62, 68] tyOK (by as_aux_lemma => kernel_rfl) (by as_aux_lemma => kernel_rfl) ?_
                  refine aa_take (fuel := 0) (listed' := #[true, true, true, true, true, true, true, true, true, true, true, true, true, true, true, true, true, true, true, true, true, true, true, true, true, true, true, true, true]) (st' := mk 73 [(1, .one (.pl [(1, 0)] 0 0)), (36, .one (.c (.sl 6 ((p0.wait).map eLock)))), (37, iV (((((p0.wait).map eLock).length : Nat) : Int))), (38, iV s2), (71, bV true)] [(1, [.bx [.fz (.sl 6 ((p0.held).map eLock)), .fz (.sl 6 ((p0.wait).map eLock))]])]) [26, 27, 28] [1, 36, 37, 38, 71] tyOK (by as_aux_lemma => kernel_rfl) (by as_aux_lemma => kernel_rfl) (by as_aux_lemma => kernel_rfl) ?_
                  refine aa_done (by as_aux_lemma => kernel_rfl) ?_
                  show _ = _; kernel_rfl
                obtain rfl := Option.some.inj h
                show ∃ _, _ ∧ Imp _ _ _
                refine ⟨_, rfl, ?_⟩
                exact imp_keepTo [1, 36, 37, 38, 71] (by as_aux_lemma => kernel_rfl) (imp_done rfl)
              · replace h := cF h7 h
                obtain ⟨r3, er3, h⟩ := bnd_e h
                rcases Bool.eq_false_or_eq_true (!r3) with h8 | h8
                · replace h := cT h8 h
                  obtain ⟨c3, h⟩ := chk_e h
                  obtain ⟨r4, er4, h⟩ := bnd_e h
                  refine a_mid (mk 73 [(1, .one (.pl [(1, 0)] 0 0)), (36, .one (.c (.sl 6 ((p0.wait).map eLock)))), (37, iV (((((p0.wait).map eLock).length : Nat) : Int))), (38, iV s2), (71, bV (!r4))] [(1, [.bx [.fz (.sl 6 ((p0.held).map eLock)), .fz (.sl 6 ((p0.wait).map eLock))]])]) ?_ ?_
                  · refine a_drawn (n := 29) [] (by as_aux_lemma => kernel_rfl) (by as_aux_lemma => kernel_rfl) ?_
                    refine aa_take (fuel := 28) (listed' := #[true, false, false, false, false, false, false, false, false, false, false, false, false, false, false, false, false, false, false, false, false, false, false, false, false, false, false, false, false]) (st' := mk 73 [(1, .one (.pl [(1, 0)] 0 0)), (5, iV s2), (6, .one (.pl [(6, 0)] 0 0)), (36, .one (.c (.sl 6 ((p0.wait).map eLock)))), (37, iV (((((p0.wait).map eLock).length : Nat) : Int))), (38, iV s2), (43, .agg [.c (iC x2.tx.c), .c (iC x2.tx.e), .c (iC x2.tx.n), .c (sC x2.range.lo), .c (sC x2.range.hi), .c (bC x2.ex)])] [(1, [.bx [.fz (.sl 6 ((p0.held).map eLock)), .fz (.sl 6 ((p0.wait).map eLock))]]), (6, [.bx [iC x2.tx.c, iC x2.tx.e, iC x2.tx.n, sC x2.range.lo, sC x2.range.hi, bC x2.ex]])]) [0] [1, 5, 6, 36, 37, 38, 43] tyOK (by as_aux_lemma => kernel_rfl) (by as_aux_lemma => kernel_rfl) (by as_aux_lemma => kernel_rfl) ?_
                    refine aa_all [1] (by as_aux_lemma => kernel_rfl) rfl ?_
                    refine aa_cons ?_ aa_nil
                    refine aone_enter (listed' := #[true, true, false, false, false, false, false, false, false, false, false, false, false, false, false, false, false, false, false, false, false, false, false, false, false, false, false, false, false]) (f := 61) (d := 44) (A := [.agg [.c (iC x2.tx.c), .c (iC x2.tx.e), .c (iC x2.tx.n), .c (sC x2.range.lo), .c (sC x2.range.hi), .c (bC x2.ex)]]) (st1 := mk 73 [(1, .one (.pl [(1, 0)] 0 0)), (5, iV s2), (6, .one (.pl [(6, 0)] 0 0)), (36, .one (.c (.sl 6 ((p0.wait).map eLock)))), (37, iV (((((p0.wait).map eLock).length : Nat) : Int))), (38, iV s2), (44, bV (s_l07LockOk x2))] [(1, [.bx [.fz (.sl 6 ((p0.held).map eLock)), .fz (.sl 6 ((p0.wait).map eLock))]]), (6, [.bx [iC x2.tx.c, iC x2.tx.e, iC x2.tx.n, sC x2.range.lo, sC x2.range.hi, bC x2.ex]])]) [1, 5, 6, 36, 37, 38, 44] (k_s_l07LockOk x2 _ rfl) Try.call61 (by as_aux_lemma => kernel_rfl) (by as_aux_lemma => kernel_rfl) (by as_aux_lemma => kernel_rfl) (by as_aux_lemma => kernel_rfl) ?_
                    refine aa_take (fuel := 25) (listed' := #[true, true, true, true, false, false, false, false, false, false, false, false, false, false, false, false, false, false, false, false, false, false, false, false, false, false, false, false, false]) (st' := mk 73 [(1, .one (.pl [(1, 0)] 0 0)), (5, iV s2), (6, .one (.pl [(6, 0)] 0 0)), (36, .one (.c (.sl 6 ((p0.wait).map eLock)))), (37, iV (((((p0.wait).map eLock).length : Nat) : Int))), (38, iV s2), (46, bV (!(s_l07LockOk x2)))] [(1, [.bx [.fz (.sl 6 ((p0.held).map eLock)), .fz (.sl 6 ((p0.wait).map eLock))]]), (6, [.bx [iC x2.tx.c, iC x2.tx.e, iC x2.tx.n, sC x2.range.lo, sC x2.range.hi, bC x2.ex]])]) [2, 3] [1, 5, 6, 36, 37, 38, 46] tyOK (by as_aux_lemma => kernel_rfl) (by as_aux_lemma => kernel_rfl) (by as_aux_lemma => kernel_rfl) ?_
                    refine aa_says (k := 46) (t := bV (!(s_l07LockOk x2))) (t' := bV false) (st1 := mk 73 [(1, .one (.pl [(1, 0)] 0 0)), (5, iV s2), (6, .one (.pl [(6, 0)] 0 0)), (36, .one (.c (.sl 6 ((p0.wait).map eLock)))), (37, iV (((((p0.wait).map eLock).length : Nat) : Int))), (38, iV s2), (46, bV false)] [(1, [.bx [.fz (.sl 6 ((p0.held).map eLock)), .fz (.sl 6 ((p0.wait).map eLock))]]), (6, [.bx [iC x2.tx.c, iC x2.tx.e, iC x2.tx.n, sC x2.range.lo, sC x2.range.hi, bC x2.ex]])]) (by as_aux_lemma => kernel_rfl) (by rw [h6]) (by as_aux_lemma => kernel_rfl) ?_
                    refine aa_take (fuel := 20) (listed' := #[true, true, true, true, true, true, true, false, false, true, true, false, false, false, false, false, false, false, false, false, false, false, false, false, false, false, false, false, false]) (st' := mk 73 [(1, .one (.pl [(1, 0)] 0 0)), (5, iV s2), (6, .one (.pl [(6, 0)] 0 0)), (36, .one (.c (.sl 6 ((p0.wait).map eLock)))), (37, iV (((((p0.wait).map eLock).length : Nat) : Int))), (38, iV s2), (46, bV false), (48, .one (.c (.sl 6 ((p0.wait).map eLock)))), (49, iV s2), (53, .agg [.c (iC x2.tx.c), .c (iC x2.tx.e), .c (iC x2.tx.n)])] [(1, [.bx [.fz (.sl 6 ((p0.held).map eLock)), .fz (.sl 6 ((p0.wait).map eLock))]]), (6, [.bx [iC x2.tx.c, iC x2.tx.e, iC x2.tx.n, sC x2.range.lo, sC x2.range.hi, bC x2.ex]])]) [4, 5, 6, 9, 10] [1, 5, 6, 36, 37, 38, 46, 48, 49, 53] tyOK (by as_aux_lemma => kernel_rfl) (by as_aux_lemma => kernel_rfl) (by as_aux_lemma => kernel_rfl) ?_
                    refine aa_q (i := 7) (d := 50) (c := (0 ≤ (0 : Int) ∧ (0 : Int) ≤ s2 ∧ s2 ≤ (((p0.wait).map eLock).length : Int) ∧ ((p0.wait).map eLock).all (fun r => r.length == 6) = true)) (tv := .one (.c (.sl 6 ((((p0.wait).map eLock).take s2.toNat).drop (0 : Int).toNat)))) (listed' := #[true, true, true, true, true, true, true, true, false, true, true, false, false, false, false, false, false, false, false, false, false, false, false, false, false, false, false, false, false]) (st1 := mk 73 [(1, .one (.pl [(1, 0)] 0 0)), (5, iV s2), (6, .one (.pl [(6, 0)] 0 0)), (36, .one (.c (.sl 6 ((p0.wait).map eLock)))), (37, iV (((((p0.wait).map eLock).length : Nat) : Int))), (38, iV s2), (46, bV false), (50, .one (.c (.sl 6 ((((p0.wait).map eLock).take s2.toNat).drop (0 : Int).toNat)))), (53, .agg [.c (iC x2.tx.c), .c (iC x2.tx.e), .c (iC x2.tx.n)])] [(1, [.bx [.fz (.sl 6 ((p0.held).map eLock)), .fz (.sl 6 ((p0.wait).map eLock))]]), (6, [.bx [iC x2.tx.c, iC x2.tx.e, iC x2.tx.n, sC x2.range.lo, sC x2.range.hi, bC x2.ex]])]) [1, 5, 6, 36, 37, 38, 46, 50, 53] tyOK (by as_aux_lemma => kernel_rfl) (by as_aux_lemma => kernel_rfl) (by simpa [eLock] using c2) (by as_aux_lemma => kernel_rfl) (by as_aux_lemma => kernel_rfl) (by as_aux_lemma => kernel_rfl) ?_
                    refine aa_says (k := 50) (t := .one (.c (.sl 6 ((((p0.wait).map eLock).take s2.toNat).drop (0 : Int).toNat)))) (t' := .one (.c (.sl 6 ((p0.wait.take ((s2).toNat)).map eLock)))) (st1 := mk 73 [(1, .one (.pl [(1, 0)] 0 0)), (5, iV s2), (6, .one (.pl [(6, 0)] 0 0)), (36, .one (.c (.sl 6 ((p0.wait).map eLock)))), (37, iV (((((p0.wait).map eLock).length : Nat) : Int))), (38, iV s2), (46, bV false), (50, .one (.c (.sl 6 ((p0.wait.take ((s2).toNat)).map eLock)))), (53, .agg [.c (iC x2.tx.c), .c (iC x2.tx.e), .c (iC x2.tx.n)])] [(1, [.bx [.fz (.sl 6 ((p0.held).map eLock)), .fz (.sl 6 ((p0.wait).map eLock))]]), (6, [.bx [iC x2.tx.c, iC x2.tx.e, iC x2.tx.n, sC x2.range.lo, sC x2.range.hi, bC x2.ex]])]) (by as_aux_lemma => kernel_rfl) (by simp [List.map_take, List.map_drop]) (by as_aux_lemma => kernel_rfl) ?_
                    refine aa_all [8] (by as_aux_lemma => kernel_rfl) rfl ?_
                    refine aa_cons ?_ aa_nil
                    refine aone_any (listed' := #[true, true, true, true, true, true, true, true, true, true, true, false, false, false, false, false, false, false, false, false, false, false, false, false, false, false, false, false, false]) (st1 := mk 73 [(1, .one (.pl [(1, 0)] 0 0)), (5, iV s2), (6, .one (.pl [(6, 0)] 0 0)), (36, .one (.c (.sl 6 ((p0.wait).map eLock)))), (37, iV (((((p0.wait).map eLock).length : Nat) : Int))), (38, iV s2), (46, bV false), (51, .agg [.c (.v (.slice none 0 0)), .c (.sl 6 ((p0.wait.take ((s2).toNat)).map eLock))]), (53, .agg [.c (iC x2.tx.c), .c (iC x2.tx.e), .c (iC x2.tx.n)])] [(1, [.bx [.fz (.sl 6 ((p0.held).map eLock)), .fz (.sl 6 ((p0.wait).map eLock))]]), (6, [.bx [iC x2.tx.c, iC x2.tx.e, iC x2.tx.n, sC x2.range.lo, sC x2.range.hi, bC x2.ex]])]) [1, 5, 6, 36, 37, 38, 46, 51, 53] tyOK (by as_aux_lemma => kernel_rfl) (by as_aux_lemma => kernel_rfl) ?_
                    refine aa_all [11] (by as_aux_lemma => kernel_rfl) rfl ?_
                    refine aa_cons ?_ aa_nil
                    refine aone_lend (listed' := #[true, true, true, true, true, true, true, true, true, true, true, true, false, false, false, false, false, false, false, false, false, false, false, false, false, false, false, false, false]) (f := 62) (d := 54) (A := [.agg [.c (.v (.slice none 0 0)), .c (.sl 6 ((p0.wait.take ((s2).toNat)).map eLock))], .agg [.c (iC x2.tx.c), .c (iC x2.tx.e), .c (iC x2.tx.n)]]) (A' := [.agg [.c (.sl 6 ([])), .c (.sl 6 ((p0.wait.take ((s2).toNat)).map eLock))], .agg [.c (iC x2.tx.c), .c (iC x2.tx.e), .c (iC x2.tx.n)]]) (st1 := mk 73 [(1, .one (.pl [(1, 0)] 0 0)), (5, iV s2), (6, .one (.pl [(6, 0)] 0 0)), (36, .one (.c (.sl 6 ((p0.wait).map eLock)))), (37, iV (((((p0.wait).map eLock).length : Nat) : Int))), (38, iV s2), (46, bV false), (54, bV r2)] [(1, [.bx [.fz (.sl 6 ((p0.held).map eLock)), .fz (.sl 6 ((p0.wait).map eLock))]]), (6, [.bx [iC x2.tx.c, iC x2.tx.e, iC x2.tx.n, sC x2.range.lo, sC x2.range.hi, bC x2.ex]])]) [1, 5, 6, 36, 37, 38, 46, 54] (k_s_l07Waits ((⟨[], p0.wait.take ((s2).toNat)⟩ : Locks)) x2.tx r2 er2) Try.call62 (by as_aux_lemma => kernel_rfl) (.cons (.agg (.cons .nilv (.cons (.same rfl) .nil))) (.cons (.agg (.cons (.same rfl) (.cons (.same rfl) (.cons (.same rfl) .nil)))) .nil)) (by as_aux_lemma => kernel_rfl) (clean_nil) (by as_aux_lemma => kernel_rfl) (by as_aux_lemma => kernel_rfl) (by as_aux_lemma => kernel_rfl) ?_
                    refine aa_take (fuel := 15) (listed' := #[true, true, true, true, true, true, true, true, true, true, true, true, true, true, false, false, false, false, false, false, false, false, false, false, false, false, false, false, false]) (st' := mk 73 [(1, .one (.pl [(1, 0)] 0 0)), (5, iV s2), (6, .one (.pl [(6, 0)] 0 0)), (36, .one (.c (.sl 6 ((p0.wait).map eLock)))), (37, iV (((((p0.wait).map eLock).length : Nat) : Int))), (38, iV s2), (56, bV r2)] [(1, [.bx [.fz (.sl 6 ((p0.held).map eLock)), .fz (.sl 6 ((p0.wait).map eLock))]]), (6, [.bx [iC x2.tx.c, iC x2.tx.e, iC x2.tx.n, sC x2.range.lo, sC x2.range.hi, bC x2.ex]])]) [12, 13] [1, 5, 6, 36, 37, 38, 56] tyOK (by as_aux_lemma => kernel_rfl) (by as_aux_lemma => kernel_rfl) (by as_aux_lemma => kernel_rfl) ?_
                    refine aa_says (k := 56) (t := bV r2) (t' := bV false) (st1 := mk 73 [(1, .one (.pl [(1, 0)] 0 0)), (5, iV s2), (6, .one (.pl [(6, 0)] 0 0)), (36, .one (.c (.sl 6 ((p0.wait).map eLock)))), (37, iV (((((p0.wait).map eLock).length : Nat) : Int))), (38, iV s2), (56, bV false)] [(1, [.bx [.fz (.sl 6 ((p0.held).map eLock)), .fz (.sl 6 ((p0.wait).map eLock))]]), (6, [.bx [iC x2.tx.c, iC x2.tx.e, iC x2.tx.n, sC x2.range.lo, sC x2.range.hi, bC x2.ex]])]) (by as_aux_lemma => kernel_rfl) (by rw [h7]) (by as_aux_lemma => kernel_rfl) ?_
                    refine aa_take (fuel := 12) (listed' := #[true, true, true, true, true, true, true, true, true, true, true, true, true, true, true, true, true, false, false, false, false, false, false, false, false, false, false, false, false]) (st' := mk 73 [(1, .one (.pl [(1, 0)] 0 0)), (5, iV s2), (6, .one (.pl [(6, 0)] 0 0)), (36, .one (.c (.sl 6 ((p0.wait).map eLock)))), (37, iV (((((p0.wait).map eLock).length : Nat) : Int))), (38, iV s2), (56, bV false), (58, .one (.c (.sl 6 ((p0.held).map eLock)))), (59, .agg [.c (iC x2.tx.c), .c (iC x2.tx.e), .c (iC x2.tx.n), .c (sC x2.range.lo), .c (sC x2.range.hi), .c (bC x2.ex)])] [(1, [.bx [.fz (.sl 6 ((p0.held).map eLock)), .fz (.sl 6 ((p0.wait).map eLock))]]), (6, [.bx [iC x2.tx.c, iC x2.tx.e, iC x2.tx.n, sC x2.range.lo, sC x2.range.hi, bC x2.ex]])]) [14, 15, 16] [1, 5, 6, 36, 37, 38, 56, 58, 59] tyOK (by as_aux_lemma => kernel_rfl) (by as_aux_lemma => kernel_rfl) (by as_aux_lemma => kernel_rfl) ?_
                    refine aa_all [17] (by as_aux_lemma => kernel_rfl) rfl ?_
                    refine aa_cons ?_ aa_nil
                    refine aone_enter (listed' := #[true, true, true, true, true, true, true, true, true, true, true, true, true, true, true, true, true, true, false, false, false, false, false, false, false, false, false, false, false]) (f := 64) (d := 60) (A := [.one (.c (.sl 6 ((p0.held).map eLock))), .agg [.c (iC x2.tx.c), .c (iC x2.tx.e), .c (iC x2.tx.n), .c (sC x2.range.lo), .c (sC x2.range.hi), .c (bC x2.ex)]]) (st1 := mk 73 [(1, .one (.pl [(1, 0)] 0 0)), (5, iV s2), (6, .one (.pl [(6, 0)] 0 0)), (36, .one (.c (.sl 6 ((p0.wait).map eLock)))), (37, iV (((((p0.wait).map eLock).length : Nat) : Int))), (38, iV s2), (56, bV false), (60, bV r3)] [(1, [.bx [.fz (.sl 6 ((p0.held).map eLock)), .fz (.sl 6 ((p0.wait).map eLock))]]), (6, [.bx [iC x2.tx.c, iC x2.tx.e, iC x2.tx.n, sC x2.range.lo, sC x2.range.hi, bC x2.ex]])]) [1, 5, 6, 36, 37, 38, 56, 60] (k_s_l07Any p0.held x2 r3 er3) Try.call64 (by as_aux_lemma => kernel_rfl) (by as_aux_lemma => kernel_rfl) (by as_aux_lemma => kernel_rfl) (by as_aux_lemma => kernel_rfl) ?_
                    refine aa_take (fuel := 9) (listed' := #[true, true, true, true, true, true, true, true, true, true, true, true, true, true, true, true, true, true, true, true, false, false, false, false, false, false, false, false, false]) (st' := mk 73 [(1, .one (.pl [(1, 0)] 0 0)), (5, iV s2), (6, .one (.pl [(6, 0)] 0 0)), (36, .one (.c (.sl 6 ((p0.wait).map eLock)))), (37, iV (((((p0.wait).map eLock).length : Nat) : Int))), (38, iV s2), (56, bV false), (62, bV (!r3))] [(1, [.bx [.fz (.sl 6 ((p0.held).map eLock)), .fz (.sl 6 ((p0.wait).map eLock))]]), (6, [.bx [iC x2.tx.c, iC x2.tx.e, iC x2.tx.n, sC x2.range.lo, sC x2.range.hi, bC x2.ex]])]) [18, 19] [1, 5, 6, 36, 37, 38, 56, 62] tyOK (by as_aux_lemma => kernel_rfl) (by as_aux_lemma => kernel_rfl) (by as_aux_lemma => kernel_rfl) ?_
                    refine aa_says (k := 62) (t := bV (!r3)) (t' := bV true) (st1 := mk 73 [(1, .one (.pl [(1, 0)] 0 0)), (5, iV s2), (6, .one (.pl [(6, 0)] 0 0)), (36, .one (.c (.sl 6 ((p0.wait).map eLock)))), (37, iV (((((p0.wait).map eLock).length : Nat) : Int))), (38, iV s2), (56, bV false), (62, bV true)] [(1, [.bx [.fz (.sl 6 ((p0.held).map eLock)), .fz (.sl 6 ((p0.wait).map eLock))]]), (6, [.bx [iC x2.tx.c, iC x2.tx.e, iC x2.tx.n, sC x2.range.lo, sC x2.range.hi, bC x2.ex]])]) (by as_aux_lemma => kernel_rfl) (by rw [h8]) (by as_aux_lemma => kernel_rfl) ?_
                    refine aa_take (fuel := 5) (listed' := #[true, true, true, true, true, true, true, true, true, true, true, true, true, true, true, true, true, true, true, true, true, true, true, false, true, false, false, false, false]) (st' := mk 73 [(1, .one (.pl [(1, 0)] 0 0)), (36, .one (.c (.sl 6 ((p0.wait).map eLock)))), (37, iV (((((p0.wait).map eLock).length : Nat) : Int))), (38, iV s2), (56, bV false), (62, bV true), (64, .one (.c (.sl 6 ((p0.wait).map eLock)))), (65, iV s2), (67, .agg [.c (iC x2.tx.c), .c (iC x2.tx.e), .c (iC x2.tx.n), .c (sC x2.range.lo), .c (sC x2.range.hi), .c (bC x2.ex)])] [(1, [.bx [.fz (.sl 6 ((p0.held).map eLock)), .fz (.sl 6 ((p0.wait).map eLock))]])]) [20, 21, 22, 24] [1, 36, 37, 38, 56, 62, 64, 65, 67] tyOK (by as_aux_lemma => kernel_rfl) (by as_aux_lemma => kernel_rfl) (by as_aux_lemma => kernel_rfl) ?_
                    refine aa_q (i := 23) (d := 66) (c := (0 ≤ (0 : Int) ∧ (0 : Int) ≤ s2 ∧ s2 ≤ (((p0.wait).map eLock).length : Int) ∧ ((p0.wait).map eLock).all (fun r => r.length == 6) = true)) (tv := .one (.c (.sl 6 ((((p0.wait).map eLock).take s2.toNat).drop (0 : Int).toNat)))) (listed' := #[true, true, true, true, true, true, true, true, true, true, true, true, true, true, true, true, true, true, true, true, true, true, true, true, true, false, false, false, false]) (st1 := mk 73 [(1, .one (.pl [(1, 0)] 0 0)), (36, .one (.c (.sl 6 ((p0.wait).map eLock)))), (37, iV (((((p0.wait).map eLock).length : Nat) : Int))), (38, iV s2), (56, bV false), (62, bV true), (66, .one (.c (.sl 6 ((((p0.wait).map eLock).take s2.toNat).drop (0 : Int).toNat)))), (67, .agg [.c (iC x2.tx.c), .c (iC x2.tx.e), .c (iC x2.tx.n), .c (sC x2.range.lo), .c (sC x2.range.hi), .c (bC x2.ex)])] [(1, [.bx [.fz (.sl 6 ((p0.held).map eLock)), .fz (.sl 6 ((p0.wait).map eLock))]])]) [1, 36, 37, 38, 56, 62, 66, 67] tyOK (by as_aux_lemma => kernel_rfl) (by as_aux_lemma => kernel_rfl) (by simpa [eLock] using c3) (by as_aux_lemma => kernel_rfl) (by as_aux_lemma => kernel_rfl) (by as_aux_lemma => kernel_rfl) ?_
                    refine aa_says (k := 66) (t := .one (.c (.sl 6 ((((p0.wait).map eLock).take s2.toNat).drop (0 : Int).toNat)))) (t' := .one (.c (.sl 6 ((p0.wait.take ((s2).toNat)).map eLock)))) (st1 := mk 73 [(1, .one (.pl [(1, 0)] 0 0)), (36, .one (.c (.sl 6 ((p0.wait).map eLock)))), (37, iV (((((p0.wait).map eLock).length : Nat) : Int))), (38, iV s2), (56, bV false), (62, bV true), (66, .one (.c (.sl 6 ((p0.wait.take ((s2).toNat)).map eLock)))), (67, .agg [.c (iC x2.tx.c), .c (iC x2.tx.e), .c (iC x2.tx.n), .c (sC x2.range.lo), .c (sC x2.range.hi), .c (bC x2.ex)])] [(1, [.bx [.fz (.sl 6 ((p0.held).map eLock)), .fz (.sl 6 ((p0.wait).map eLock))]])]) (by as_aux_lemma => kernel_rfl) (by simp [List.map_take, List.map_drop]) (by as_aux_lemma => kernel_rfl) ?_
                    refine aa_all [25] (by as_aux_lemma => kernel_rfl) rfl ?_
                    refine aa_cons ?_ aa_nil
                    refine aone_enter (listed' := #[true, true, true, true, true, true, true, true, true, true, true, true, true, true, true, true, true, true, true, true, true, true, true, true, true, true, false, false, false]) (f := 64) (d := 68) (A := [.one (.c (.sl 6 ((p0.wait.take ((s2).toNat)).map eLock))), .agg [.c (iC x2.tx.c), .c (iC x2.tx.e), .c (iC x2.tx.n), .c (sC x2.range.lo), .c (sC x2.range.hi), .c (bC x2.ex)]]) (st1 := mk 73 [(1, .one (.pl [(1, 0)] 0 0)), (36, .one (.c (.sl 6 ((p0.wait).map eLock)))), (37, iV (((((p0.wait).map eLock).length : Nat) : Int))), (38, iV s2), (56, bV false), (62, bV true), (68, bV r4)] [(1, [.bx [.fz (.sl 6 ((p0.held).map eLock)), .fz (.sl 6 ((p0.wait).map eLock))]])]) [1, 36, 37, 38, 56, 62, 68] (k_s_l07Any (p0.wait.take ((s2).toNat)) x2 r4 er4) Try.call64 (by as_aux_lemma => kernel_rfl) (by as_aux_lemma => kernel_rfl) (by as_aux_lemma => kernel_rfl) (by as_aux_lemma => kernel_rfl) ?_
                    refine aa_take (fuel := 0) (listed' := #[true, true, true, true, true, true, true, true, true, true, true, true, true, true, true, true, true, true, true, true, true, true, true, true, true, true, true, true, true]) (st' := mk 73 [(1, .one (.pl [(1, 0)] 0 0)), (36, .one (.c (.sl 6 ((p0.wait).map eLock)))), (37, iV (((((p0.wait).map eLock).length : Nat) : Int))), (38, iV s2), (71, bV (!r4))] [(1, [.bx [.fz (.sl 6 ((p0.held).map eLock)), .fz (.sl 6 ((p0.wait).map eLock))]])]) [26, 27, 28] [1, 36, 37, 38, 71] tyOK (by as_aux_lemma => kernel_rfl) (by as_aux_lemma => kernel_rfl) (by as_aux_lemma => kernel_rfl) ?_
                    refine aa_done (by as_aux_lemma => kernel_rfl) ?_
                    show _ = _; kernel_rfl
                  obtain rfl := Option.some.inj h
                  show ∃ _, _ ∧ Imp _ _ _
                  refine ⟨_, rfl, ?_⟩
                  exact imp_keepTo [1, 36, 37, 38, 71] (by as_aux_lemma => kernel_rfl) (imp_done rfl)
                · replace h := cF h8 h
                  refine a_mid (mk 73 [(1, .one (.pl [(1, 0)] 0 0)), (36, .one (.c (.sl 6 ((p0.wait).map eLock)))), (37, iV (((((p0.wait).map eLock).length : Nat) : Int))), (38, iV s2), (71, bV false)] [(1, [.bx [.fz (.sl 6 ((p0.held).map eLock)), .fz (.sl 6 ((p0.wait).map eLock))]])]) ?_ ?_
                  · refine a_drawn (n := 29) [] (by as_aux_lemma => kernel_rfl) (by as_aux_lemma => kernel_rfl) ?_
                    refine aa_take (fuel := 28) (listed' := #[true, false, false, false, false, false, false, false, false, false, false, false, false, false, false, false, false, false, false, false, false, false, false, false, false, false, false, false, false]) (st' := mk 73 [(1, .one (.pl [(1, 0)] 0 0)), (5, iV s2), (6, .one (.pl [(6, 0)] 0 0)), (36, .one (.c (.sl 6 ((p0.wait).map eLock)))), (37, iV (((((p0.wait).map eLock).length : Nat) : Int))), (38, iV s2), (43, .agg [.c (iC x2.tx.c), .c (iC x2.tx.e), .c (iC x2.tx.n), .c (sC x2.range.lo), .c (sC x2.range.hi), .c (bC x2.ex)])] [(1, [.bx [.fz (.sl 6 ((p0.held).map eLock)), .fz (.sl 6 ((p0.wait).map eLock))]]), (6, [.bx [iC x2.tx.c, iC x2.tx.e, iC x2.tx.n, sC x2.range.lo, sC x2.range.hi, bC x2.ex]])]) [0] [1, 5, 6, 36, 37, 38, 43] tyOK (by as_aux_lemma => kernel_rfl) (by as_aux_lemma => kernel_rfl) (by as_aux_lemma => kernel_rfl) ?_
                    refine aa_all [1] (by as_aux_lemma => kernel_rfl) rfl ?_
                    refine aa_cons ?_ aa_nil
                    refine aone_enter (listed' := #[true, true, false, false, false, false, false, false, false, false, false, false, false, false, false, false, false, false, false, false, false, false, false, false, false, false, false, false, false]) (f := 61) (d := 44) (A := [.agg [.c (iC x2.tx.c), .c (iC x2.tx.e), .c (iC x2.tx.n), .c (sC x2.range.lo), .c (sC x2.range.hi), .c (bC x2.ex)]]) (st1 := mk 73 [(1, .one (.pl [(1, 0)] 0 0)), (5, iV s2), (6, .one (.pl [(6, 0)] 0 0)), (36, .one (.c (.sl 6 ((p0.wait).map eLock)))), (37, iV (((((p0.wait).map eLock).length : Nat) : Int))), (38, iV s2), (44, bV (s_l07LockOk x2))] [(1, [.bx [.fz (.sl 6 ((p0.held).map eLock)), .fz (.sl 6 ((p0.wait).map eLock))]]), (6, [.bx [iC x2.tx.c, iC x2.tx.e, iC x2.tx.n, sC x2.range.lo, sC x2.range.hi, bC x2.ex]])]) [1, 5, 6, 36, 37, 38, 44] (k_s_l07LockOk x2 _ rfl) Try.call61 (by as_aux_lemma => kernel_rfl) (by as_aux_lemma => kernel_rfl) (by as_aux_lemma => kernel_rfl) (by as_aux_lemma => kernel_rfl) ?_
                    refine aa_take (fuel := 25) (listed' := #[true, true, true, true, false, false, false, false, false, false, false, false, false, false, false, false, false, false, false, false, false, false, false, false, false, false, false, false, false]) (st' := mk 73 [(1, .one (.pl [(1, 0)] 0 0)), (5, iV s2), (6, .one (.pl [(6, 0)] 0 0)), (36, .one (.c (.sl 6 ((p0.wait).map eLock)))), (37, iV (((((p0.wait).map eLock).length : Nat) : Int))), (38, iV s2), (46, bV (!(s_l07LockOk x2)))] [(1, [.bx [.fz (.sl 6 ((p0.held).map eLock)), .fz (.sl 6 ((p0.wait).map eLock))]]), (6, [.bx [iC x2.tx.c, iC x2.tx.e, iC x2.tx.n, sC x2.range.lo, sC x2.range.hi, bC x2.ex]])]) [2, 3] [1, 5, 6, 36, 37, 38, 46] tyOK (by as_aux_lemma => kernel_rfl) (by as_aux_lemma => kernel_rfl) (by as_aux_lemma => kernel_rfl) ?_
                    refine aa_says (k := 46) (t := bV (!(s_l07LockOk x2))) (t' := bV false) (st1 := mk 73 [(1, .one (.pl [(1, 0)] 0 0)), (5, iV s2), (6, .one (.pl [(6, 0)] 0 0)), (36, .one (.c (.sl 6 ((p0.wait).map eLock)))), (37, iV (((((p0.wait).map eLock).length : Nat) : Int))), (38, iV s2), (46, bV false)] [(1, [.bx [.fz (.sl 6 ((p0.held).map eLock)), .fz (.sl 6 ((p0.wait).map eLock))]]), (6, [.bx [iC x2.tx.c, iC x2.tx.e, iC x2.tx.n, sC x2.range.lo, sC x2.range.hi, bC x2.ex]])]) (by as_aux_lemma => kernel_rfl) (by rw [h6]) (by as_aux_lemma => kernel_rfl) ?_
                    refine aa_take (fuel := 20) (listed' := #[true, true, true, true, true, true, true, false, false, true, true, false, false, false, false, false, false, false, false, false, false, false, false, false, false, false, false, false, false]) (st' := mk 73 [(1, .one (.pl [(1, 0)] 0 0)), (5, iV s2), (6, .one (.pl [(6, 0)] 0 0)), (36, .one (.c (.sl 6 ((p0.wait).map eLock)))), (37, iV (((((p0.wait).map eLock).length : Nat) : Int))), (38, iV s2), (46, bV false), (48, .one (.c (.sl 6 ((p0.wait).map eLock)))), (49, iV s2), (53, .agg [.c (iC x2.tx.c), .c (iC x2.tx.e), .c (iC x2.tx.n)])] [(1, [.bx [.fz (.sl 6 ((p0.held).map eLock)), .fz (.sl 6 ((p0.wait).map eLock))]]), (6, [.bx [iC x2.tx.c, iC x2.tx.e, iC x2.tx.n, sC x2.range.lo, sC x2.range.hi, bC x2.ex]])]) [4, 5, 6, 9, 10] [1, 5, 6, 36, 37, 38, 46, 48, 49, 53] tyOK (by as_aux_lemma => kernel_rfl) (by as_aux_lemma => kernel_rfl) (by as_aux_lemma => kernel_rfl) ?_
                    refine aa_q (i := 7) (d := 50) (c := (0 ≤ (0 : Int) ∧ (0 : Int) ≤ s2 ∧ s2 ≤ (((p0.wait).map eLock).length : Int) ∧ ((p0.wait).map eLock).all (fun r => r.length == 6) = true)) (tv := .one (.c (.sl 6 ((((p0.wait).map eLock).take s2.toNat).drop (0 : Int).toNat)))) (listed' := #[true, true, true, true, true, true, true, true, false, true, true, false, false, false, false, false, false, false, false, false, false, false, false, false, false, false, false, false, false]) (st1 := mk 73 [(1, .one (.pl [(1, 0)] 0 0)), (5, iV s2), (6, .one (.pl [(6, 0)] 0 0)), (36, .one (.c (.sl 6 ((p0.wait).map eLock)))), (37, iV (((((p0.wait).map eLock).length : Nat) : Int))), (38, iV s2), (46, bV false), (50, .one (.c (.sl 6 ((((p0.wait).map eLock).take s2.toNat).drop (0 : Int).toNat)))), (53, .agg [.c (iC x2.tx.c), .c (iC x2.tx.e), .c (iC x2.tx.n)])] [(1, [.bx [.fz (.sl 6 ((p0.held).map eLock)), .fz (.sl 6 ((p0.wait).map eLock))]]), (6, [.bx [iC x2.tx.c, iC x2.tx.e, iC x2.tx.n, sC x2.range.lo, sC x2.range.hi, bC x2.ex]])]) [1, 5, 6, 36, 37, 38, 46, 50, 53] tyOK (by as_aux_lemma => kernel_rfl) (by as_aux_lemma => kernel_rfl) (by simpa [eLock] using c2) (by as_aux_lemma => kernel_rfl) (by as_aux_lemma => kernel_rfl) (by as_aux_lemma => kernel_rfl) ?_
                    refine aa_says (k := 50) (t := .one (.c (.sl 6 ((((p0.wait).map eLock).take s2.toNat).drop (0 : Int).toNat)))) (t' := .one (.c (.sl 6 ((p0.wait.take ((s2).toNat)).map eLock)))) (st1 := mk 73 [(1, .one (.pl [(1, 0)] 0 0)), (5, iV s2), (6, .one (.pl [(6, 0)] 0 0)), (36, .one (.c (.sl 6 ((p0.wait).map eLock)))), (37, iV (((((p0.wait).map eLock).length : Nat) : Int))), (38, iV s2), (46, bV false), (50, .one (.c (.sl 6 ((p0.wait.take ((s2).toNat)).map eLock)))), (53, .agg [.c (iC x2.tx.c), .c (iC x2.tx.e), .c (iC x2.tx.n)])] [(1, [.bx [.fz (.sl 6 ((p0.held).map eLock)), .fz (.sl 6 ((p0.wait).map eLock))]]), (6, [.bx [iC x2.tx.c, iC x2.tx.e, iC x2.tx.n, sC x2.range.lo, sC x2.range.hi, bC x2.ex]])]) (by as_aux_lemma => kernel_rfl) (by simp [List.map_take, List.map_drop]) (by as_aux_lemma => kernel_rfl) ?_
                    refine aa_all [8] (by as_aux_lemma => kernel_rfl) rfl ?_
                    refine aa_cons ?_ aa_nil
                    refine aone_any (listed' := #[true, true, true, true, true, true, true, true, true, true, true, false, false, false, false, false, false, false, false, false, false, false, false, false, false, false, false, false, false]) (st1 := mk 73 [(1, .one (.pl [(1, 0)] 0 0)), (5, iV s2), (6, .one (.pl [(6, 0)] 0 0)), (36, .one (.c (.sl 6 ((p0.wait).map eLock)))), (37, iV (((((p0.wait).map eLock).length : Nat) : Int))), (38, iV s2), (46, bV false), (51, .agg [.c (.v (.slice none 0 0)), .c (.sl 6 ((p0.wait.take ((s2).toNat)).map eLock))]), (53, .agg [.c (iC x2.tx.c), .c (iC x2.tx.e), .c (iC x2.tx.n)])] [(1, [.bx [.fz (.sl 6 ((p0.held).map eLock)), .fz (.sl 6 ((p0.wait).map eLock))]]), (6, [.bx [iC x2.tx.c, iC x2.tx.e, iC x2.tx.n, sC x2.range.lo, sC x2.range.hi, bC x2.ex]])]) [1, 5, 6, 36, 37, 38, 46, 51, 53] tyOK (by as_aux_lemma => kernel_rfl) (by as_aux_lemma => kernel_rfl) ?_
                    refine aa_all [11] (by as_aux_lemma => kernel_rfl) rfl ?_
                    refine aa_cons ?_ aa_nil
                    refine aone_lend (listed' := #[true, true, true, true, true, true, true, true, true, true, true, true, false, false, false, false, false, false, false, false, false, false, false, false, false, false, false, false, false]) (f := 62) (d := 54) (A := [.agg [.c (.v (.slice none 0 0)), .c (.sl 6 ((p0.wait.take ((s2).toNat)).map eLock))], .agg [.c (iC x2.tx.c), .c (iC x2.tx.e), .c (iC x2.tx.n)]]) (A' := [.agg [.c (.sl 6 ([])), .c (.sl 6 ((p0.wait.take ((s2).toNat)).map eLock))], .agg [.c (iC x2.tx.c), .c (iC x2.tx.e), .c (iC x2.tx.n)]]) (st1 := mk 73 [(1, .one (.pl [(1, 0)] 0 0)), (5, iV s2), (6, .one (.pl [(6, 0)] 0 0)), (36, .one (.c (.sl 6 ((p0.wait).map eLock)))), (37, iV (((((p0.wait).map eLock).length : Nat) : Int))), (38, iV s2), (46, bV false), (54, bV r2)] [(1, [.bx [.fz (.sl 6 ((p0.held).map eLock)), .fz (.sl 6 ((p0.wait).map eLock))]]), (6, [.bx [iC x2.tx.c, iC x2.tx.e, iC x2.tx.n, sC x2.range.lo, sC x2.range.hi, bC x2.ex]])]) [1, 5, 6, 36, 37, 38, 46, 54] (k_s_l07Waits ((⟨[], p0.wait.take ((s2).toNat)⟩ : Locks)) x2.tx r2 er2) Try.call62 (by as_aux_lemma => kernel_rfl) (.cons (.agg (.cons .nilv (.cons (.same rfl) .nil))) (.cons (.agg (.cons (.same rfl) (.cons (.same rfl) (.cons (.same rfl) .nil)))) .nil)) (by as_aux_lemma => kernel_rfl) (clean_nil) (by as_aux_lemma => kernel_rfl) (by as_aux_lemma => kernel_rfl) (by as_aux_lemma => kernel_rfl) ?_
                    refine aa_take (fuel := 15) (listed' := #[true, true, true, true, true, true, true, true, true, true, true, true, true, true, false, false, false, false, false, false, false, false, false, false, false, false, false, false, false]) (st' := mk 73 [(1, .one (.pl [(1, 0)] 0 0)), (5, iV s2), (6, .one (.pl [(6, 0)] 0 0)), (36, .one (.c (.sl 6 ((p0.wait).map eLock)))), (37, iV (((((p0.wait).map eLock).length : Nat) : Int))), (38, iV s2), (56, bV r2)] [(1, [.bx [.fz (.sl 6 ((p0.held).map eLock)), .fz (.sl 6 ((p0.wait).map eLock))]]), (6, [.bx [iC x2.tx.c, iC x2.tx.e, iC x2.tx.n, sC x2.range.lo, sC x2.range.hi, bC x2.ex]])]) [12, 13] [1, 5, 6, 36, 37, 38, 56] tyOK (by as_aux_lemma => kernel_rfl) (by as_aux_lemma => kernel_rfl) (by as_aux_lemma => kernel_rfl) ?_
                    refine aa_says (k := 56) (t := bV r2) (t' := bV false) (st1 := mk 73 [(1, .one (.pl [(1, 0)] 0 0)), (5, iV s2), (6, .one (.pl [(6, 0)] 0 0)), (36, .one (.c (.sl 6 ((p0.wait).map eLock)))), (37, iV (((((p0.wait).map eLock).length : Nat) : Int))), (38, iV s2), (56, bV false)] [(1, [.bx [.fz (.sl 6 ((p0.held).map eLock)), .fz (.sl 6 ((p0.wait).map eLock))]]), (6, [.bx [iC x2.tx.c, iC x2.tx.e, iC x2.tx.n, sC x2.range.lo, sC x2.range.hi, bC x2.ex]])]) (by as_aux_lemma => kernel_rfl) (by rw [h7]) (by as_aux_lemma => kernel_rfl) ?_
                    refine aa_take (fuel := 12) (listed' := #[true, true, true, true, true, true, true, true, true, true, true, true, true, true, true, true, true, false, false, false, false, false, false, false, false, false, false, false, false]) (st' := mk 73 [(1, .one (.pl [(1, 0)] 0 0)), (5, iV s2), (6, .one (.pl [(6, 0)] 0 0)), (36, .one (.c (.sl 6 ((p0.wait).map eLock)))), (37, iV (((((p0.wait).map eLock).length : Nat) : Int))), (38, iV s2), (56, bV false), (58, .one (.c (.sl 6 ((p0.held).map eLock)))), (59, .agg [.c (iC x2.tx.c), .c (iC x2.tx.e), .c (iC x2.tx.n), .c (sC x2.range.lo), .c (sC x2.range.hi), .c (bC x2.ex)])] [(1, [.bx [.fz (.sl 6 ((p0.held).map eLock)), .fz (.sl 6 ((p0.wait).map eLock))]]), (6, [.bx [iC x2.tx.c, iC x2.tx.e, iC x2.tx.n, sC x2.range.lo, sC x2.range.hi, bC x2.ex]])]) [14, 15, 16] [1, 5, 6, 36, 37, 38, 56, 58, 59] tyOK (by as_aux_lemma => kernel_rfl) (by as_aux_lemma => kernel_rfl) (by as_aux_lemma => kernel_rfl) ?_
                    refine aa_all [17] (by as_aux_lemma => kernel_rfl) rfl ?_
                    refine aa_cons ?_ aa_nil
                    refine aone_enter (listed' := #[true, true, true, true, true, true, true, true, true, true, true, true, true, true, true, true, true, true, false, false, false, false, false, false, false, false, false, false, false]) (f := 64) (d := 60) (A := [.one (.c (.sl 6 ((p0.held).map eLock))), .agg [.c (iC x2.tx.c), .c (iC x2.tx.e), .c (iC x2.tx.n), .c (sC x2.range.lo), .c (sC x2.range.hi), .c (bC x2.ex)]]) (st1 := mk 73 [(1, .one (.pl [(1, 0)] 0 0)), (5, iV s2), (6, .one (.pl [(6, 0)] 0 0)), (36, .one (.c (.sl 6 ((p0.wait).map eLock)))), (37, iV (((((p0.wait).map eLock).length : Nat) : Int))), (38, iV s2), (56, bV false), (60, bV r3)] [(1, [.bx [.fz (.sl 6 ((p0.held).map eLock)), .fz (.sl 6 ((p0.wait).map eLock))]]), (6, [.bx [iC x2.tx.c, iC x2.tx.e, iC x2.tx.n, sC x2.range.lo, sC x2.range.hi, bC x2.ex]])]) [1, 5, 6, 36, 37, 38, 56, 60] (k_s_l07Any p0.held x2 r3 er3) Try.call64 (by as_aux_lemma => kernel_rfl) (by as_aux_lemma => kernel_rfl) (by as_aux_lemma => kernel_rfl) (by as_aux_lemma => kernel_rfl) ?_
                    refine aa_take (fuel := 9) (listed' := #[true, true, true, true, true, true, true, true, true, true, true, true, true, true, true, true, true, true, true, true, false, false, false, false, false, false, false, false, false]) (st' := mk 73 [(1, .one (.pl [(1, 0)] 0 0)), (5, iV s2), (6, .one (.pl [(6, 0)] 0 0)), (36, .one (.c (.sl 6 ((p0.wait).map eLock)))), (37, iV (((((p0.wait).map eLock).length : Nat) : Int))), (38, iV s2), (56, bV false), (62, bV (!r3))] [(1, [.bx [.fz (.sl 6 ((p0.held).map eLock)), .fz (.sl 6 ((p0.wait).map eLock))]]), (6, [.bx [iC x2.tx.c, iC x2.tx.e, iC x2.tx.n, sC x2.range.lo, sC x2.range.hi, bC x2.ex]])]) [18, 19] [1, 5, 6, 36, 37, 38, 56, 62] tyOK (by as_aux_lemma => kernel_rfl) (by as_aux_lemma => kernel_rfl) (by as_aux_lemma => kernel_rfl) ?_
                    refine aa_says (k := 62) (t := bV (!r3)) (t' := bV false) (st1 := mk 73 [(1, .one (.pl [(1, 0)] 0 0)), (5, iV s2), (6, .one (.pl [(6, 0)] 0 0)), (36, .one (.c (.sl 6 ((p0.wait).map eLock)))), (37, iV (((((p0.wait).map eLock).length : Nat) : Int))), (38, iV s2), (56, bV false), (62, bV false)] [(1, [.bx [.fz (.sl 6 ((p0.held).map eLock)), .fz (.sl 6 ((p0.wait).map eLock))]]), (6, [.bx [iC x2.tx.c, iC x2.tx.e, iC x2.tx.n, sC x2.range.lo, sC x2.range.hi, bC x2.ex]])]) (by as_aux_lemma => kernel_rfl) (by rw [h8]) (by as_aux_lemma => kernel_rfl) ?_
                    refine aa_take (fuel := 4) (listed' := #[true, true, true, true, true, true, true, true, true, true, true, true, true, true, true, true, true, true, true, true, true, true, true, true, true, false, false, false, false]) (st' := mk 73 [(1, .one (.pl [(1, 0)] 0 0)), (36, .one (.c (.sl 6 ((p0.wait).map eLock)))), (37, iV (((((p0.wait).map eLock).length : Nat) : Int))), (38, iV s2), (56, bV false), (62, bV false), (66, .tup []), (67, .tup [])] [(1, [.bx [.fz (.sl 6 ((p0.held).map eLock)), .fz (.sl 6 ((p0.wait).map eLock))]])]) [20, 21, 22, 23, 24] [1, 36, 37, 38, 56, 62, 66, 67] tyOK (by as_aux_lemma => kernel_rfl) (by as_aux_lemma => kernel_rfl) (by as_aux_lemma => kernel_rfl) ?_
                    refine aa_all [25] (by as_aux_lemma => kernel_rfl) rfl ?_
                    refine aa_cons ?_ aa_nil
                    refine aone_any (listed' := #[true, true, true, true, true, true, true, true, true, true, true, true, true, true, true, true, true, true, true, true, true, true, true, true, true, true, false, false, false]) (st1 := mk 73 [(1, .one (.pl [(1, 0)] 0 0)), (36, .one (.c (.sl 6 ((p0.wait).map eLock)))), (37, iV (((((p0.wait).map eLock).length : Nat) : Int))), (38, iV s2), (56, bV false), (62, bV false), (68, .tup [])] [(1, [.bx [.fz (.sl 6 ((p0.held).map eLock)), .fz (.sl 6 ((p0.wait).map eLock))]])]) [1, 36, 37, 38, 56, 62, 68] tyOK (by as_aux_lemma => kernel_rfl) (by as_aux_lemma => kernel_rfl) ?_
                    refine aa_take (fuel := 0) (listed' := #[true, true, true, true, true, true, true, true, true, true, true, true, true, true, true, true, true, true, true, true, true, true, true, true, true, true, true, true, true]) (st' := mk 73 [(1, .one (.pl [(1, 0)] 0 0)), (36, .one (.c (.sl 6 ((p0.wait).map eLock)))), (37, iV (((((p0.wait).map eLock).length : Nat) : Int))), (38, iV s2), (71, bV false)] [(1, [.bx [.fz (.sl 6 ((p0.held).map eLock)), .fz (.sl 6 ((p0.wait).map eLock))]])]) [26, 27, 28] [1, 36, 37, 38, 71] tyOK (by as_aux_lemma => kernel_rfl) (by as_aux_lemma => kernel_rfl) (by as_aux_lemma => kernel_rfl) ?_
                    refine aa_done (by as_aux_lemma => kernel_rfl) ?_
                    show _ = _; kernel_rfl
                  obtain rfl := Option.some.inj h
                  show ∃ _, _ ∧ Imp _ _ _
                  refine ⟨_, rfl, ?_⟩
                  exact imp_keepTo [1, 36, 37, 38, 71] (by as_aux_lemma => kernel_rfl) (imp_done rfl)
          intro j3 hj3
          replace h := ky6 _ hj3
          refine a_cond (b := j3) (by as_aux_lemma => kernel_rfl) (fun h9 => ?_) (fun h9 => ?_)
          · replace h := cT h9 h
            refine a_seq ?_
            refine a_run [2] tyOK (st1 := mk 73 [(2, bV false)] []) (by as_aux_lemma => kernel_rfl) ?_
            refine a_ret ?_
            obtain rfl := Option.some.inj h
            obtain rfl := zy5 _ rfl
            obtain rfl := zy4 _ rfl
            exact end_eq (res' := bV false) (by as_aux_lemma => kernel_rfl) (by first | rfl | simp)
          · replace h := cF h9 h
            refine a_skip ?_
            refine a_run [1, 36, 37, 38] tyOK (st1 := mk 73 [(1, .one (.pl [(1, 0)] 0 0)), (36, .one (.c (.sl 6 ((p0.wait).map eLock)))), (37, iV (((((p0.wait).map eLock).length : Nat) : Int))), (38, iV (IntKind.wrap .i64 (s2 + 1)))] [(1, [.bx [.fz (.sl 6 ((p0.held).map eLock)), .fz (.sl 6 ((p0.wait).map eLock))]])]) (by as_aux_lemma => kernel_rfl) ?_
            obtain rfl := Option.some.inj h
            show ∃ _, _ ∧ Imp _ _ _
            refine ⟨_, rfl, ?_⟩
            exact imp_keepTo [1, 36, 37, 38] (by as_aux_lemma => kernel_rfl) (imp_done rfl)
        · replace h := cF h5 h
          refine a_exit ?_
          obtain rfl := Option.some.inj h
          obtain rfl := zy5 _ rfl
          show ∃ _, _ ∧ Imp _ _ _
          refine ⟨_, rfl, ?_⟩
          exact imp_keepTo [] (by as_aux_lemma => kernel_rfl) (imp_done rfl)
      intro j4 hj4
      replace h := ky4 _ hj4
      refine a_seq ?_
      refine a_run [2] tyOK (st1 := mk 73 [(2, bV true)] []) (by as_aux_lemma => kernel_rfl) ?_
      refine a_ret ?_
      obtain rfl := Option.some.inj h
      exact end_eq (res' := bV true) (by as_aux_lemma => kernel_rfl) (by first | rfl | simp)

noncomputable def s_l07Copy (p0 : Locks) : Option (Locks) :=
 chk (((([] : List Lock)).length + (p0.held).length) * 64 ≤ 140737488355328) <|
 chk (((([] : List Lock)).length + (p0.wait).length) * 64 ≤ 140737488355328) <|
 some p0
set_option maxHeartbeats 4000000 in
/-- spec.l07Copy -/
theorem k_s_l07Copy (p0 : Locks) (v : Locks) (h : s_l07Copy p0 = some v) : CallOK Try.prog 63 [.agg [.c (.sl 6 ((p0.held).map eLock)), .c (.sl 6 ((p0.wait).map eLock))]] (.agg [.so [] 0 0 ((v.held).length), .so [] 0 1 ((v.wait).length)]) [.sl 6 ((v.held).map eLock), .sl 6 ((v.wait).map eLock)] :=
  callOK tyOK Try.func63 rfl fun w S hS => by
    unfold s_l07Copy at h
    refine a_seq ?_
    refine a_run [1, 2] tyOK (st1 := mk 12 [(1, .one (.pl [(1, 0)] 0 0)), (2, .one (.pl [(2, 0)] 0 0))] [(1, [.bx [.fz (.sl 6 ((p0.held).map eLock)), .fz (.sl 6 ((p0.wait).map eLock))]]), (2, [.bx [.sl 6 ([]), .sl 6 ([])]])]) (by as_aux_lemma => kernel_rfl) ?_
    refine a_seq ?_
    obtain ⟨c1, h⟩ := chk_e h
    obtain ⟨c2, h⟩ := chk_e h
    refine a_mid (mk 12 [(2, .one (.pl [(2, 0)] 0 0))] [(2, [.bx [.sl 6 ((p0.held).map eLock), .sl 6 ((p0.wait).map eLock)]])]) ?_ ?_
    · refine a_drawn (n := 10) [3, 7, 9] (by as_aux_lemma => kernel_rfl) (by as_aux_lemma => kernel_rfl) ?_
      refine aa_take (fuel := 8) (listed' := #[false, true, true, false, false, false, false, false, false, false]) (st' := mk 12 [(1, .one (.pl [(1, 0)] 0 0)), (2, .one (.pl [(2, 0)] 0 0)), (5, .one (.c (.sl 6 ((p0.held).map eLock))))] [(1, [.bx [.fz (.sl 6 ((p0.held).map eLock)), .fz (.sl 6 ((p0.wait).map eLock))]]), (2, [.bx [.sl 6 ([]), .sl 6 ([])]])]) [1, 2] [1, 2, 5] tyOK (by as_aux_lemma => kernel_rfl) (by as_aux_lemma => kernel_rfl) (by as_aux_lemma => kernel_rfl) ?_
      refine aa_all [0, 4, 5] (by as_aux_lemma => kernel_rfl) rfl ?_
      refine aa_cons ?_ ?_
      · refine aone_any (listed' := #[true, true, true, false, false, false, false, false, false, false]) (st1 := mk 12 [(1, .one (.pl [(1, 0)] 0 0)), (2, .one (.pl [(2, 0)] 0 0)), (3, .one (.so [] 3 0 0)), (5, .one (.c (.sl 6 ((p0.held).map eLock))))] [(1, [.bx [.fz (.sl 6 ((p0.held).map eLock)), .fz (.sl 6 ((p0.wait).map eLock))]]), (2, [.bx [.sl 6 ([]), .sl 6 ([])]]), (3, [.sl 6 ([])])]) [1, 2, 3, 5] tyOK (by as_aux_lemma => kernel_rfl) (by as_aux_lemma => kernel_rfl) ?_
        refine aa_all [3, 4, 5] (by as_aux_lemma => kernel_rfl) rfl ?_
        refine aa_cons ?_ ?_
        · refine aone_append (listed' := #[true, true, true, true, false, false, false, false, false, false]) (d := 6) (n := 0) (n' := ((p0.held).length)) (bytes := 64) (size := 6) (src := (some ([], 3, 0))) (rows := []) (tx := .one (.c (.sl 6 ((p0.held).map eLock)))) (new := ((p0.held).map eLock).map (List.map frzC)) (rows' := (p0.held).map eLock) (st1 := mk 12 [(1, .one (.pl [(1, 0)] 0 0)), (2, .one (.pl [(2, 0)] 0 0)), (6, .one (.so [] 6 0 ((p0.held).length)))] [(1, [.bx [.fz (.sl 6 ((p0.held).map eLock)), .fz (.sl 6 ((p0.wait).map eLock))]]), (2, [.bx [.sl 6 ([]), .sl 6 ([])]]), (6, [.sl 6 ((p0.held).map eLock)])]) [1, 2, 6] tyOK (by as_aux_lemma => kernel_rfl) (appRows_fz (by simp [bC, eLock, eRange, eTx, frzC, iC, sC])) (by simp) (by simpa using c1) (by as_aux_lemma => kernel_rfl) (by simp [bC, eLock, eRange, eTx, frzC, iC, sC]) (by simp) (by as_aux_lemma => kernel_rfl) (by as_aux_lemma => kernel_rfl) (by as_aux_lemma => kernel_rfl) ?_
          refine aa_take (fuel := 4) (listed' := #[true, true, true, true, false, true, true, false, false, false]) (st' := mk 12 [(2, .one (.pl [(2, 0)] 0 0)), (6, .one (.so [] 6 0 ((p0.held).length))), (9, .one (.c (.sl 6 ((p0.wait).map eLock))))] [(2, [.bx [.sl 6 ([]), .sl 6 ([])]]), (6, [.sl 6 ((p0.held).map eLock)])]) [5, 6] [2, 6, 9] tyOK (by as_aux_lemma => kernel_rfl) (by as_aux_lemma => kernel_rfl) (by as_aux_lemma => kernel_rfl) ?_
          refine aa_all [4] (by as_aux_lemma => kernel_rfl) rfl ?_
          refine aa_cons ?_ aa_nil
          refine aone_any (listed' := #[true, true, true, true, true, true, true, false, false, false]) (st1 := mk 12 [(2, .one (.pl [(2, 0)] 0 0)), (6, .one (.so [] 6 0 ((p0.held).length))), (7, .one (.so [] 7 0 0)), (9, .one (.c (.sl 6 ((p0.wait).map eLock))))] [(2, [.bx [.sl 6 ([]), .sl 6 ([])]]), (6, [.sl 6 ((p0.held).map eLock)]), (7, [.sl 6 ([])])]) [2, 6, 7, 9] tyOK (by as_aux_lemma => kernel_rfl) (by as_aux_lemma => kernel_rfl) ?_
          refine aa_all [7] (by as_aux_lemma => kernel_rfl) rfl ?_
          refine aa_cons ?_ aa_nil
          refine aone_append (listed' := #[true, true, true, true, true, true, true, true, false, false]) (d := 10) (n := 0) (n' := ((p0.wait).length)) (bytes := 64) (size := 6) (src := (some ([], 7, 0))) (rows := []) (tx := .one (.c (.sl 6 ((p0.wait).map eLock)))) (new := ((p0.wait).map eLock).map (List.map frzC)) (rows' := (p0.wait).map eLock) (st1 := mk 12 [(2, .one (.pl [(2, 0)] 0 0)), (6, .one (.so [] 6 0 ((p0.held).length))), (10, .one (.so [] 10 0 ((p0.wait).length)))] [(2, [.bx [.sl 6 ([]), .sl 6 ([])]]), (6, [.sl 6 ((p0.held).map eLock)]), (10, [.sl 6 ((p0.wait).map eLock)])]) [2, 6, 10] tyOK (by as_aux_lemma => kernel_rfl) (appRows_fz (by simp [bC, eLock, eRange, eTx, frzC, iC, sC])) (by simp) (by simpa using c2) (by as_aux_lemma => kernel_rfl) (by simp [bC, eLock, eRange, eTx, frzC, iC, sC]) (by simp) (by as_aux_lemma => kernel_rfl) (by as_aux_lemma => kernel_rfl) (by as_aux_lemma => kernel_rfl) ?_
          refine aa_all [8] (by as_aux_lemma => kernel_rfl) rfl ?_
          refine aa_cons ?_ aa_nil
          refine aone_any (listed' := #[true, true, true, true, true, true, true, true, true, false]) (st1 := mk 12 [(2, .one (.pl [(2, 0)] 0 0)), (11, .agg [.so [] 6 0 ((p0.held).length), .so [] 10 0 ((p0.wait).length)])] [(2, [.bx [.sl 6 ([]), .sl 6 ([])]]), (6, [.sl 6 ((p0.held).map eLock)]), (10, [.sl 6 ((p0.wait).map eLock)])]) [2, 11] tyOK (by as_aux_lemma => kernel_rfl) (by as_aux_lemma => kernel_rfl) ?_
          refine aa_all [9] (by as_aux_lemma => kernel_rfl) rfl ?_
          refine aa_cons ?_ aa_nil
          refine aone_o (ob := [(((p0.held).map eLock).length, (p0.held).length), (((p0.wait).map eLock).length, (p0.wait).length)]) (listed' := #[true, true, true, true, true, true, true, true, true, true]) (st1 := mk 12 [(2, .one (.pl [(2, 0)] 0 0))] [(2, [.bx [.sl 6 ((p0.held).map eLock), .sl 6 ((p0.wait).map eLock)]])]) [2] tyOK (by as_aux_lemma => kernel_rfl) ⟨by simp, by simp, trivial⟩ (by as_aux_lemma => kernel_rfl) (by as_aux_lemma => kernel_rfl) ?_
          refine aa_done (by as_aux_lemma => kernel_rfl) ?_
          show _ = _; kernel_rfl
        refine aa_cons ?_ ?_
        · refine aone_any (listed' := #[true, true, true, false, true, false, false, false, false, false]) (st1 := mk 12 [(1, .one (.pl [(1, 0)] 0 0)), (2, .one (.pl [(2, 0)] 0 0)), (3, .one (.so [] 3 0 0)), (5, .one (.c (.sl 6 ((p0.held).map eLock)))), (7, .one (.so [] 7 0 0))] [(1, [.bx [.fz (.sl 6 ((p0.held).map eLock)), .fz (.sl 6 ((p0.wait).map eLock))]]), (2, [.bx [.sl 6 ([]), .sl 6 ([])]]), (3, [.sl 6 ([])]), (7, [.sl 6 ([])])]) [1, 2, 3, 5, 7] tyOK (by as_aux_lemma => kernel_rfl) (by as_aux_lemma => kernel_rfl) ?_
          refine aa_all [3, 5] (by as_aux_lemma => kernel_rfl) rfl ?_
          refine aa_cons ?_ ?_
          · refine aone_append (listed' := #[true, true, true, true, true, false, false, false, false, false]) (d := 6) (n := 0) (n' := ((p0.held).length)) (bytes := 64) (size := 6) (src := (some ([], 3, 0))) (rows := []) (tx := .one (.c (.sl 6 ((p0.held).map eLock)))) (new := ((p0.held).map eLock).map (List.map frzC)) (rows' := (p0.held).map eLock) (st1 := mk 12 [(1, .one (.pl [(1, 0)] 0 0)), (2, .one (.pl [(2, 0)] 0 0)), (6, .one (.so [] 6 0 ((p0.held).length))), (7, .one (.so [] 7 0 0))] [(1, [.bx [.fz (.sl 6 ((p0.held).map eLock)), .fz (.sl 6 ((p0.wait).map eLock))]]), (2, [.bx [.sl 6 ([]), .sl 6 ([])]]), (6, [.sl 6 ((p0.held).map eLock)]), (7, [.sl 6 ([])])]) [1, 2, 6, 7] tyOK (by as_aux_lemma => kernel_rfl) (appRows_fz (by simp [bC, eLock, eRange, eTx, frzC, iC, sC])) (by simp) (by simpa using c1) (by as_aux_lemma => kernel_rfl) (by simp [bC, eLock, eRange, eTx, frzC, iC, sC]) (by simp) (by as_aux_lemma => kernel_rfl) (by as_aux_lemma => kernel_rfl) (by as_aux_lemma => kernel_rfl) ?_
            refine aa_take (fuel := 3) (listed' := #[true, true, true, true, true, true, true, false, false, false]) (st' := mk 12 [(2, .one (.pl [(2, 0)] 0 0)), (6, .one (.so [] 6 0 ((p0.held).length))), (7, .one (.so [] 7 0 0)), (9, .one (.c (.sl 6 ((p0.wait).map eLock))))] [(2, [.bx [.sl 6 ([]), .sl 6 ([])]]), (6, [.sl 6 ((p0.held).map eLock)]), (7, [.sl 6 ([])])]) [5, 6] [2, 6, 7, 9] tyOK (by as_aux_lemma => kernel_rfl) (by as_aux_lemma => kernel_rfl) (by as_aux_lemma => kernel_rfl) ?_
            refine aa_all [7] (by as_aux_lemma => kernel_rfl) rfl ?_
            refine aa_cons ?_ aa_nil
            refine aone_append (listed' := #[true, true, true, true, true, true, true, true, false, false]) (d := 10) (n := 0) (n' := ((p0.wait).length)) (bytes := 64) (size := 6) (src := (some ([], 7, 0))) (rows := []) (tx := .one (.c (.sl 6 ((p0.wait).map eLock)))) (new := ((p0.wait).map eLock).map (List.map frzC)) (rows' := (p0.wait).map eLock) (st1 := mk 12 [(2, .one (.pl [(2, 0)] 0 0)), (6, .one (.so [] 6 0 ((p0.held).length))), (10, .one (.so [] 10 0 ((p0.wait).length)))] [(2, [.bx [.sl 6 ([]), .sl 6 ([])]]), (6, [.sl 6 ((p0.held).map eLock)]), (10, [.sl 6 ((p0.wait).map eLock)])]) [2, 6, 10] tyOK (by as_aux_lemma => kernel_rfl) (appRows_fz (by simp [bC, eLock, eRange, eTx, frzC, iC, sC])) (by simp) (by simpa using c2) (by as_aux_lemma => kernel_rfl) (by simp [bC, eLock, eRange, eTx, frzC, iC, sC]) (by simp) (by as_aux_lemma => kernel_rfl) (by as_aux_lemma => kernel_rfl) (by as_aux_lemma => kernel_rfl) ?_
            refine aa_all [8] (by as_aux_lemma => kernel_rfl) rfl ?_
            refine aa_cons ?_ aa_nil
            refine aone_any (listed' := #[true, true, true, true, true, true, true, true, true, false]) (st1 := mk 12 [(2, .one (.pl [(2, 0)] 0 0)), (11, .agg [.so [] 6 0 ((p0.held).length), .so [] 10 0 ((p0.wait).length)])] [(2, [.bx [.sl 6 ([]), .sl 6 ([])]]), (6, [.sl 6 ((p0.held).map eLock)]), (10, [.sl 6 ((p0.wait).map eLock)])]) [2, 11] tyOK (by as_aux_lemma => kernel_rfl) (by as_aux_lemma => kernel_rfl) ?_
            refine aa_all [9] (by as_aux_lemma => kernel_rfl) rfl ?_
            refine aa_cons ?_ aa_nil
            refine aone_o (ob := [(((p0.held).map eLock).length, (p0.held).length), (((p0.wait).map eLock).length, (p0.wait).length)]) (listed' := #[true, true, true, true, true, true, true, true, true, true]) (st1 := mk 12 [(2, .one (.pl [(2, 0)] 0 0))] [(2, [.bx [.sl 6 ((p0.held).map eLock), .sl 6 ((p0.wait).map eLock)]])]) [2] tyOK (by as_aux_lemma => kernel_rfl) ⟨by simp, by simp, trivial⟩ (by as_aux_lemma => kernel_rfl) (by as_aux_lemma => kernel_rfl) ?_
            refine aa_done (by as_aux_lemma => kernel_rfl) ?_
            show _ = _; kernel_rfl
          refine aa_cons ?_ aa_nil
          refine aone_any (listed' := #[true, true, true, false, true, true, false, false, false, false]) (st1 := mk 12 [(2, .one (.pl [(2, 0)] 0 0)), (3, .one (.so [] 3 0 0)), (5, .one (.c (.sl 6 ((p0.held).map eLock)))), (7, .one (.so [] 7 0 0)), (8, .one (.pl [(1, 0)] 0 1))] [(1, [.bx [.fz (.sl 6 ((p0.held).map eLock)), .fz (.sl 6 ((p0.wait).map eLock))]]), (2, [.bx [.sl 6 ([]), .sl 6 ([])]]), (3, [.sl 6 ([])]), (7, [.sl 6 ([])])]) [2, 3, 5, 7, 8] tyOK (by as_aux_lemma => kernel_rfl) (by as_aux_lemma => kernel_rfl) ?_
          refine aa_all [3, 6] (by as_aux_lemma => kernel_rfl) rfl ?_
          refine aa_cons ?_ ?_
          · refine aone_append (listed' := #[true, true, true, true, true, true, false, false, false, false]) (d := 6) (n := 0) (n' := ((p0.held).length)) (bytes := 64) (size := 6) (src := (some ([], 3, 0))) (rows := []) (tx := .one (.c (.sl 6 ((p0.held).map eLock)))) (new := ((p0.held).map eLock).map (List.map frzC)) (rows' := (p0.held).map eLock) (st1 := mk 12 [(2, .one (.pl [(2, 0)] 0 0)), (6, .one (.so [] 6 0 ((p0.held).length))), (7, .one (.so [] 7 0 0)), (8, .one (.pl [(1, 0)] 0 1))] [(1, [.bx [.fz (.sl 6 ((p0.held).map eLock)), .fz (.sl 6 ((p0.wait).map eLock))]]), (2, [.bx [.sl 6 ([]), .sl 6 ([])]]), (6, [.sl 6 ((p0.held).map eLock)]), (7, [.sl 6 ([])])]) [2, 6, 7, 8] tyOK (by as_aux_lemma => kernel_rfl) (appRows_fz (by simp [bC, eLock, eRange, eTx, frzC, iC, sC])) (by simp) (by simpa using c1) (by as_aux_lemma => kernel_rfl) (by simp [bC, eLock, eRange, eTx, frzC, iC, sC]) (by simp) (by as_aux_lemma => kernel_rfl) (by as_aux_lemma => kernel_rfl) (by as_aux_lemma => kernel_rfl) ?_
            refine aa_take (fuel := 3) (listed' := #[true, true, true, true, true, true, true, false, false, false]) (st' := mk 12 [(2, .one (.pl [(2, 0)] 0 0)), (6, .one (.so [] 6 0 ((p0.held).length))), (7, .one (.so [] 7 0 0)), (9, .one (.c (.sl 6 ((p0.wait).map eLock))))] [(2, [.bx [.sl 6 ([]), .sl 6 ([])]]), (6, [.sl 6 ((p0.held).map eLock)]), (7, [.sl 6 ([])])]) [6] [2, 6, 7, 9] tyOK (by as_aux_lemma => kernel_rfl) (by as_aux_lemma => kernel_rfl) (by as_aux_lemma => kernel_rfl) ?_
            refine aa_all [7] (by as_aux_lemma => kernel_rfl) rfl ?_
            refine aa_cons ?_ aa_nil
            refine aone_append (listed' := #[true, true, true, true, true, true, true, true, false, false]) (d := 10) (n := 0) (n' := ((p0.wait).length)) (bytes := 64) (size := 6) (src := (some ([], 7, 0))) (rows := []) (tx := .one (.c (.sl 6 ((p0.wait).map eLock)))) (new := ((p0.wait).map eLock).map (List.map frzC)) (rows' := (p0.wait).map eLock) (st1 := mk 12 [(2, .one (.pl [(2, 0)] 0 0)), (6, .one (.so [] 6 0 ((p0.held).length))), (10, .one (.so [] 10 0 ((p0.wait).length)))] [(2, [.bx [.sl 6 ([]), .sl 6 ([])]]), (6, [.sl 6 ((p0.held).map eLock)]), (10, [.sl 6 ((p0.wait).map eLock)])]) [2, 6, 10] tyOK (by as_aux_lemma => kernel_rfl) (appRows_fz (by simp [bC, eLock, eRange, eTx, frzC, iC, sC])) (by simp) (by simpa using c2) (by as_aux_lemma => kernel_rfl) (by simp [bC, eLock, eRange, eTx, frzC, iC, sC]) (by simp) (by as_aux_lemma => kernel_rfl) (by as_aux_lemma => kernel_rfl) (by as_aux_lemma => kernel_rfl) ?_
            refine aa_all [8] (by as_aux_lemma => kernel_rfl) rfl ?_
            refine aa_cons ?_ aa_nil
            refine aone_any (listed' := #[true, true, true, true, true, true, true, true, true, false]) (st1 := mk 12 [(2, .one (.pl [(2, 0)] 0 0)), (11, .agg [.so [] 6 0 ((p0.held).length), .so [] 10 0 ((p0.wait).length)])] [(2, [.bx [.sl 6 ([]), .sl 6 ([])]]), (6, [.sl 6 ((p0.held).map eLock)]), (10, [.sl 6 ((p0.wait).map eLock)])]) [2, 11] tyOK (by as_aux_lemma => kernel_rfl) (by as_aux_lemma => kernel_rfl) ?_
            refine aa_all [9] (by as_aux_lemma => kernel_rfl) rfl ?_
            refine aa_cons ?_ aa_nil
            refine aone_o (ob := [(((p0.held).map eLock).length, (p0.held).length), (((p0.wait).map eLock).length, (p0.wait).length)]) (listed' := #[true, true, true, true, true, true, true, true, true, true]) (st1 := mk 12 [(2, .one (.pl [(2, 0)] 0 0))] [(2, [.bx [.sl 6 ((p0.held).map eLock), .sl 6 ((p0.wait).map eLock)]])]) [2] tyOK (by as_aux_lemma => kernel_rfl) ⟨by simp, by simp, trivial⟩ (by as_aux_lemma => kernel_rfl) (by as_aux_lemma => kernel_rfl) ?_
            refine aa_done (by as_aux_lemma => kernel_rfl) ?_
            show _ = _; kernel_rfl
          refine aa_cons ?_ aa_nil
          refine aone_any (listed' := #[true, true, true, false, true, true, true, false, false, false]) (st1 := mk 12 [(2, .one (.pl [(2, 0)] 0 0)), (3, .one (.so [] 3 0 0)), (5, .one (.c (.sl 6 ((p0.held).map eLock)))), (7, .one (.so [] 7 0 0)), (9, .one (.c (.sl 6 ((p0.wait).map eLock))))] [(2, [.bx [.sl 6 ([]), .sl 6 ([])]]), (3, [.sl 6 ([])]), (7, [.sl 6 ([])])]) [2, 3, 5, 7, 9] tyOK (by as_aux_lemma => kernel_rfl) (by as_aux_lemma => kernel_rfl) ?_
          refine aa_all [3] (by as_aux_lemma => kernel_rfl) rfl ?_
          refine aa_cons ?_ aa_nil
          refine aone_append (listed' := #[true, true, true, true, true, true, true, false, false, false]) (d := 6) (n := 0) (n' := ((p0.held).length)) (bytes := 64) (size := 6) (src := (some ([], 3, 0))) (rows := []) (tx := .one (.c (.sl 6 ((p0.held).map eLock)))) (new := ((p0.held).map eLock).map (List.map frzC)) (rows' := (p0.held).map eLock) (st1 := mk 12 [(2, .one (.pl [(2, 0)] 0 0)), (6, .one (.so [] 6 0 ((p0.held).length))), (7, .one (.so [] 7 0 0)), (9, .one (.c (.sl 6 ((p0.wait).map eLock))))] [(2, [.bx [.sl 6 ([]), .sl 6 ([])]]), (6, [.sl 6 ((p0.held).map eLock)]), (7, [.sl 6 ([])])]) [2, 6, 7, 9] tyOK (by as_aux_lemma => kernel_rfl) (appRows_fz (by simp [bC, eLock, eRange, eTx, frzC, iC, sC])) (by simp) (by simpa using c1) (by as_aux_lemma => kernel_rfl) (by simp [bC, eLock, eRange, eTx, frzC, iC, sC]) (by simp) (by as_aux_lemma => kernel_rfl) (by as_aux_lemma => kernel_rfl) (by as_aux_lemma => kernel_rfl) ?_
          refine aa_all [7] (by as_aux_lemma => kernel_rfl) rfl ?_
          refine aa_cons ?_ aa_nil
          refine aone_append (listed' := #[true, true, true, true, true, true, true, true, false, false]) (d := 10) (n := 0) (n' := ((p0.wait).length)) (bytes := 64) (size := 6) (src := (some ([], 7, 0))) (rows := []) (tx := .one (.c (.sl 6 ((p0.wait).map eLock)))) (new := ((p0.wait).map eLock).map (List.map frzC)) (rows' := (p0.wait).map eLock) (st1 := mk 12 [(2, .one (.pl [(2, 0)] 0 0)), (6, .one (.so [] 6 0 ((p0.held).length))), (10, .one (.so [] 10 0 ((p0.wait).length)))] [(2, [.bx [.sl 6 ([]), .sl 6 ([])]]), (6, [.sl 6 ((p0.held).map eLock)]), (10, [.sl 6 ((p0.wait).map eLock)])]) [2, 6, 10] tyOK (by as_aux_lemma => kernel_rfl) (appRows_fz (by simp [bC, eLock, eRange, eTx, frzC, iC, sC])) (by simp) (by simpa using c2) (by as_aux_lemma => kernel_rfl) (by simp [bC, eLock, eRange, eTx, frzC, iC, sC]) (by simp) (by as_aux_lemma => kernel_rfl) (by as_aux_lemma => kernel_rfl) (by as_aux_lemma => kernel_rfl) ?_
          refine aa_all [8] (by as_aux_lemma => kernel_rfl) rfl ?_
          refine aa_cons ?_ aa_nil
          refine aone_any (listed' := #[true, true, true, true, true, true, true, true, true, false]) (st1 := mk 12 [(2, .one (.pl [(2, 0)] 0 0)), (11, .agg [.so [] 6 0 ((p0.held).length), .so [] 10 0 ((p0.wait).length)])] [(2, [.bx [.sl 6 ([]), .sl 6 ([])]]), (6, [.sl 6 ((p0.held).map eLock)]), (10, [.sl 6 ((p0.wait).map eLock)])]) [2, 11] tyOK (by as_aux_lemma => kernel_rfl) (by as_aux_lemma => kernel_rfl) ?_
          refine aa_all [9] (by as_aux_lemma => kernel_rfl) rfl ?_
          refine aa_cons ?_ aa_nil
          refine aone_o (ob := [(((p0.held).map eLock).length, (p0.held).length), (((p0.wait).map eLock).length, (p0.wait).length)]) (listed' := #[true, true, true, true, true, true, true, true, true, true]) (st1 := mk 12 [(2, .one (.pl [(2, 0)] 0 0))] [(2, [.bx [.sl 6 ((p0.held).map eLock), .sl 6 ((p0.wait).map eLock)]])]) [2] tyOK (by as_aux_lemma => kernel_rfl) ⟨by simp, by simp, trivial⟩ (by as_aux_lemma => kernel_rfl) (by as_aux_lemma => kernel_rfl) ?_
          refine aa_done (by as_aux_lemma => kernel_rfl) ?_
          show _ = _; kernel_rfl
        refine aa_cons ?_ aa_nil
        refine aone_any (listed' := #[true, true, true, false, false, true, false, false, false, false]) (st1 := mk 12 [(2, .one (.pl [(2, 0)] 0 0)), (3, .one (.so [] 3 0 0)), (5, .one (.c (.sl 6 ((p0.held).map eLock)))), (8, .one (.pl [(1, 0)] 0 1))] [(1, [.bx [.fz (.sl 6 ((p0.held).map eLock)), .fz (.sl 6 ((p0.wait).map eLock))]]), (2, [.bx [.sl 6 ([]), .sl 6 ([])]]), (3, [.sl 6 ([])])]) [2, 3, 5, 8] tyOK (by as_aux_lemma => kernel_rfl) (by as_aux_lemma => kernel_rfl) ?_
        refine aa_all [3, 4, 6] (by as_aux_lemma => kernel_rfl) rfl ?_
        refine aa_cons ?_ ?_
        · refine aone_append (listed' := #[true, true, true, true, false, true, false, false, false, false]) (d := 6) (n := 0) (n' := ((p0.held).length)) (bytes := 64) (size := 6) (src := (some ([], 3, 0))) (rows := []) (tx := .one (.c (.sl 6 ((p0.held).map eLock)))) (new := ((p0.held).map eLock).map (List.map frzC)) (rows' := (p0.held).map eLock) (st1 := mk 12 [(2, .one (.pl [(2, 0)] 0 0)), (6, .one (.so [] 6 0 ((p0.held).length))), (8, .one (.pl [(1, 0)] 0 1))] [(1, [.bx [.fz (.sl 6 ((p0.held).map eLock)), .fz (.sl 6 ((p0.wait).map eLock))]]), (2, [.bx [.sl 6 ([]), .sl 6 ([])]]), (6, [.sl 6 ((p0.held).map eLock)])]) [2, 6, 8] tyOK (by as_aux_lemma => kernel_rfl) (appRows_fz (by simp [bC, eLock, eRange, eTx, frzC, iC, sC])) (by simp) (by simpa using c1) (by as_aux_lemma => kernel_rfl) (by simp [bC, eLock, eRange, eTx, frzC, iC, sC]) (by simp) (by as_aux_lemma => kernel_rfl) (by as_aux_lemma => kernel_rfl) (by as_aux_lemma => kernel_rfl) ?_
          refine aa_take (fuel := 4) (listed' := #[true, true, true, true, false, true, true, false, false, false]) (st' := mk 12 [(2, .one (.pl [(2, 0)] 0 0)), (6, .one (.so [] 6 0 ((p0.held).length))), (9, .one (.c (.sl 6 ((p0.wait).map eLock))))] [(2, [.bx [.sl 6 ([]), .sl 6 ([])]]), (6, [.sl 6 ((p0.held).map eLock)])]) [6] [2, 6, 9] tyOK (by as_aux_lemma => kernel_rfl) (by as_aux_lemma => kernel_rfl) (by as_aux_lemma => kernel_rfl) ?_
          refine aa_all [4] (by as_aux_lemma => kernel_rfl) rfl ?_
          refine aa_cons ?_ aa_nil
          refine aone_any (listed' := #[true, true, true, true, true, true, true, false, false, false]) (st1 := mk 12 [(2, .one (.pl [(2, 0)] 0 0)), (6, .one (.so [] 6 0 ((p0.held).length))), (7, .one (.so [] 7 0 0)), (9, .one (.c (.sl 6 ((p0.wait).map eLock))))] [(2, [.bx [.sl 6 ([]), .sl 6 ([])]]), (6, [.sl 6 ((p0.held).map eLock)]), (7, [.sl 6 ([])])]) [2, 6, 7, 9] tyOK (by as_aux_lemma => kernel_rfl) (by as_aux_lemma => kernel_rfl) ?_
          refine aa_all [7] (by as_aux_lemma => kernel_rfl) rfl ?_
          refine aa_cons ?_ aa_nil
          refine aone_append (listed' := #[true, true, true, true, true, true, true, true, false, false]) (d := 10) (n := 0) (n' := ((p0.wait).length)) (bytes := 64) (size := 6) (src := (some ([], 7, 0))) (rows := []) (tx := .one (.c (.sl 6 ((p0.wait).map eLock)))) (new := ((p0.wait).map eLock).map (List.map frzC)) (rows' := (p0.wait).map eLock) (st1 := mk 12 [(2, .one (.pl [(2, 0)] 0 0)), (6, .one (.so [] 6 0 ((p0.held).length))), (10, .one (.so [] 10 0 ((p0.wait).length)))] [(2, [.bx [.sl 6 ([]), .sl 6 ([])]]), (6, [.sl 6 ((p0.held).map eLock)]), (10, [.sl 6 ((p0.wait).map eLock)])]) [2, 6, 10] tyOK (by as_aux_lemma => kernel_rfl) (appRows_fz (by simp [bC, eLock, eRange, eTx, frzC, iC, sC])) (by simp) (by simpa using c2) (by as_aux_lemma => kernel_rfl) (by simp [bC, eLock, eRange, eTx, frzC, iC, sC]) (by simp) (by as_aux_lemma => kernel_rfl) (by as_aux_lemma => kernel_rfl) (by as_aux_lemma => kernel_rfl) ?_
          refine aa_all [8] (by as_aux_lemma => kernel_rfl) rfl ?_
          refine aa_cons ?_ aa_nil
          refine aone_any (listed' := #[true, true, true, true, true, true, true, true, true, false]) (st1 := mk 12 [(2, .one (.pl [(2, 0)] 0 0)), (11, .agg [.so [] 6 0 ((p0.held).length), .so [] 10 0 ((p0.wait).length)])] [(2, [.bx [.sl 6 ([]), .sl 6 ([])]]), (6, [.sl 6 ((p0.held).map eLock)]), (10, [.sl 6 ((p0.wait).map eLock)])]) [2, 11] tyOK (by as_aux_lemma => kernel_rfl) (by as_aux_lemma => kernel_rfl) ?_
          refine aa_all [9] (by as_aux_lemma => kernel_rfl) rfl ?_
          refine aa_cons ?_ aa_nil
          refine aone_o (ob := [(((p0.held).map eLock).length, (p0.held).length), (((p0.wait).map eLock).length, (p0.wait).length)]) (listed' := #[true, true, true, true, true, true, true, true, true, true]) (st1 := mk 12 [(2, .one (.pl [(2, 0)] 0 0))] [(2, [.bx [.sl 6 ((p0.held).map eLock), .sl 6 ((p0.wait).map eLock)]])]) [2] tyOK (by as_aux_lemma => kernel_rfl) ⟨by simp, by simp, trivial⟩ (by as_aux_lemma => kernel_rfl) (by as_aux_lemma => kernel_rfl) ?_
          refine aa_done (by as_aux_lemma => kernel_rfl) ?_
          show _ = _; kernel_rfl
        refine aa_cons ?_ ?_
        · refine aone_any (listed' := #[true, true, true, false, true, true, false, false, false, false]) (st1 := mk 12 [(2, .one (.pl [(2, 0)] 0 0)), (3, .one (.so [] 3 0 0)), (5, .one (.c (.sl 6 ((p0.held).map eLock)))), (7, .one (.so [] 7 0 0)), (8, .one (.pl [(1, 0)] 0 1))] [(1, [.bx [.fz (.sl 6 ((p0.held).map eLock)), .fz (.sl 6 ((p0.wait).map eLock))]]), (2, [.bx [.sl 6 ([]), .sl 6 ([])]]), (3, [.sl 6 ([])]), (7, [.sl 6 ([])])]) [2, 3, 5, 7, 8] tyOK (by as_aux_lemma => kernel_rfl) (by as_aux_lemma => kernel_rfl) ?_
          refine aa_all [3, 6] (by as_aux_lemma => kernel_rfl) rfl ?_
          refine aa_cons ?_ ?_
          · refine aone_append (listed' := #[true, true, true, true, true, true, false, false, false, false]) (d := 6) (n := 0) (n' := ((p0.held).length)) (bytes := 64) (size := 6) (src := (some ([], 3, 0))) (rows := []) (tx := .one (.c (.sl 6 ((p0.held).map eLock)))) (new := ((p0.held).map eLock).map (List.map frzC)) (rows' := (p0.held).map eLock) (st1 := mk 12 [(2, .one (.pl [(2, 0)] 0 0)), (6, .one (.so [] 6 0 ((p0.held).length))), (7, .one (.so [] 7 0 0)), (8, .one (.pl [(1, 0)] 0 1))] [(1, [.bx [.fz (.sl 6 ((p0.held).map eLock)), .fz (.sl 6 ((p0.wait).map eLock))]]), (2, [.bx [.sl 6 ([]), .sl 6 ([])]]), (6, [.sl 6 ((p0.held).map eLock)]), (7, [.sl 6 ([])])]) [2, 6, 7, 8] tyOK (by as_aux_lemma => kernel_rfl) (appRows_fz (by simp [bC, eLock, eRange, eTx, frzC, iC, sC])) (by simp) (by simpa using c1) (by as_aux_lemma => kernel_rfl) (by simp [bC, eLock, eRange, eTx, frzC, iC, sC]) (by simp) (by as_aux_lemma => kernel_rfl) (by as_aux_lemma => kernel_rfl) (by as_aux_lemma => kernel_rfl) ?_
            refine aa_take (fuel := 3) (listed' := #[true, true, true, true, true, true, true, false, false, false]) (st' := mk 12 [(2, .one (.pl [(2, 0)] 0 0)), (6, .one (.so [] 6 0 ((p0.held).length))), (7, .one (.so [] 7 0 0)), (9, .one (.c (.sl 6 ((p0.wait).map eLock))))] [(2, [.bx [.sl 6 ([]), .sl 6 ([])]]), (6, [.sl 6 ((p0.held).map eLock)]), (7, [.sl 6 ([])])]) [6] [2, 6, 7, 9] tyOK (by as_aux_lemma => kernel_rfl) (by as_aux_lemma => kernel_rfl) (by as_aux_lemma => kernel_rfl) ?_
            refine aa_all [7] (by as_aux_lemma => kernel_rfl) rfl ?_
            refine aa_cons ?_ aa_nil
            refine aone_append (listed' := #[true, true, true, true, true, true, true, true, false, false]) (d := 10) (n := 0) (n' := ((p0.wait).length)) (bytes := 64) (size := 6) (src := (some ([], 7, 0))) (rows := []) (tx := .one (.c (.sl 6 ((p0.wait).map eLock)))) (new := ((p0.wait).map eLock).map (List.map frzC)) (rows' := (p0.wait).map eLock) (st1 := mk 12 [(2, .one (.pl [(2, 0)] 0 0)), (6, .one (.so [] 6 0 ((p0.held).length))), (10, .one (.so [] 10 0 ((p0.wait).length)))] [(2, [.bx [.sl 6 ([]), .sl 6 ([])]]), (6, [.sl 6 ((p0.held).map eLock)]), (10, [.sl 6 ((p0.wait).map eLock)])]) [2, 6, 10] tyOK (by as_aux_lemma => kernel_rfl) (appRows_fz (by simp [bC, eLock, eRange, eTx, frzC, iC, sC])) (by simp) (by simpa using c2) (by as_aux_lemma => kernel_rfl) (by simp [bC, eLock, eRange, eTx, frzC, iC, sC]) (by simp) (by as_aux_lemma => kernel_rfl) (by as_aux_lemma => kernel_rfl) (by as_aux_lemma => kernel_rfl) ?_
            refine aa_all [8] (by as_aux_lemma => kernel_rfl) rfl ?_
            refine aa_cons ?_ aa_nil
            refine aone_any (listed' := #[true, true, true, true, true, true, true, true, true, false]) (st1 := mk 12 [(2, .one (.pl [(2, 0)] 0 0)), (11, .agg [.so [] 6 0 ((p0.held).length), .so [] 10 0 ((p0.wait).length)])] [(2, [.bx [.sl 6 ([]), .sl 6 ([])]]), (6, [.sl 6 ((p0.held).map eLock)]), (10, [.sl 6 ((p0.wait).map eLock)])]) [2, 11] tyOK (by as_aux_lemma => kernel_rfl) (by as_aux_lemma => kernel_rfl) ?_
            refine aa_all [9] (by as_aux_lemma => kernel_rfl) rfl ?_
            refine aa_cons ?_ aa_nil
            refine aone_o (ob := [(((p0.held).map eLock).length, (p0.held).length), (((p0.wait).map eLock).length, (p0.wait).length)]) (listed' := #[true, true, true, true, true, true, true, true, true, true]) (st1 := mk 12 [(2, .one (.pl [(2, 0)] 0 0))] [(2, [.bx [.sl 6 ((p0.held).map eLock), .sl 6 ((p0.wait).map eLock)]])]) [2] tyOK (by as_aux_lemma => kernel_rfl) ⟨by simp, by simp, trivial⟩ (by as_aux_lemma => kernel_rfl) (by as_aux_lemma => kernel_rfl) ?_
            refine aa_done (by as_aux_lemma => kernel_rfl) ?_
            show _ = _; kernel_rfl
          refine aa_cons ?_ aa_nil
          refine aone_any (listed' := #[true, true, true, false, true, true, true, false, false, false]) (st1 := mk 12 [(2, .one (.pl [(2, 0)] 0 0)), (3, .one (.so [] 3 0 0)), (5, .one (.c (.sl 6 ((p0.held).map eLock)))), (7, .one (.so [] 7 0 0)), (9, .one (.c (.sl 6 ((p0.wait).map eLock))))] [(2, [.bx [.sl 6 ([]), .sl 6 ([])]]), (3, [.sl 6 ([])]), (7, [.sl 6 ([])])]) [2, 3, 5, 7, 9] tyOK (by as_aux_lemma => kernel_rfl) (by as_aux_lemma => kernel_rfl) ?_
          refine aa_all [3] (by as_aux_lemma => kernel_rfl) rfl ?_
          refine aa_cons ?_ aa_nil
          refine aone_append (listed' := #[true, true, true, true, true, true, true, false, false, false]) (d := 6) (n := 0) (n' := ((p0.held).length)) (bytes := 64) (size := 6) (src := (some ([], 3, 0))) (rows := []) (tx := .one (.c (.sl 6 ((p0.held).map eLock)))) (new := ((p0.held).map eLock).map (List.map frzC)) (rows' := (p0.held).map eLock) (st1 := mk 12 [(2, .one (.pl [(2, 0)] 0 0)), (6, .one (.so [] 6 0 ((p0.held).length))), (7, .one (.so [] 7 0 0)), (9, .one (.c (.sl 6 ((p0.wait).map eLock))))] [(2, [.bx [.sl 6 ([]), .sl 6 ([])]]), (6, [.sl 6 ((p0.held).map eLock)]), (7, [.sl 6 ([])])]) [2, 6, 7, 9] tyOK (by as_aux_lemma => kernel_rfl) (appRows_fz (by simp [bC, eLock, eRange, eTx, frzC, iC, sC])) (by simp) (by simpa using c1) (by as_aux_lemma => kernel_rfl) (by simp [bC, eLock, eRange, eTx, frzC, iC, sC]) (by simp) (by as_aux_lemma => kernel_rfl) (by as_aux_lemma => kernel_rfl) (by as_aux_lemma => kernel_rfl) ?_
          refine aa_all [7] (by as_aux_lemma => kernel_rfl) rfl ?_
          refine aa_cons ?_ aa_nil
          refine aone_append (listed' := #[true, true, true, true, true, true, true, true, false, false]) (d := 10) (n := 0) (n' := ((p0.wait).length)) (bytes := 64) (size := 6) (src := (some ([], 7, 0))) (rows := []) (tx := .one (.c (.sl 6 ((p0.wait).map eLock)))) (new := ((p0.wait).map eLock).map (List.map frzC)) (rows' := (p0.wait).map eLock) (st1 := mk 12 [(2, .one (.pl [(2, 0)] 0 0)), (6, .one (.so [] 6 0 ((p0.held).length))), (10, .one (.so [] 10 0 ((p0.wait).length)))] [(2, [.bx [.sl 6 ([]), .sl 6 ([])]]), (6, [.sl 6 ((p0.held).map eLock)]), (10, [.sl 6 ((p0.wait).map eLock)])]) [2, 6, 10] tyOK (by as_aux_lemma => kernel_rfl) (appRows_fz (by simp [bC, eLock, eRange, eTx, frzC, iC, sC])) (by simp) (by simpa using c2) (by as_aux_lemma => kernel_rfl) (by simp [bC, eLock, eRange, eTx, frzC, iC, sC]) (by simp) (by as_aux_lemma => kernel_rfl) (by as_aux_lemma => kernel_rfl) (by as_aux_lemma => kernel_rfl) ?_
          refine aa_all [8] (by as_aux_lemma => kernel_rfl) rfl ?_
          refine aa_cons ?_ aa_nil
          refine aone_any (listed' := #[true, true, true, true, true, true, true, true, true, false]) (st1 := mk 12 [(2, .one (.pl [(2, 0)] 0 0)), (11, .agg [.so [] 6 0 ((p0.held).length), .so [] 10 0 ((p0.wait).length)])] [(2, [.bx [.sl 6 ([]), .sl 6 ([])]]), (6, [.sl 6 ((p0.held).map eLock)]), (10, [.sl 6 ((p0.wait).map eLock)])]) [2, 11] tyOK (by as_aux_lemma => kernel_rfl) (by as_aux_lemma => kernel_rfl) ?_
          refine aa_all [9] (by as_aux_lemma => kernel_rfl) rfl ?_
          refine aa_cons ?_ aa_nil
          refine aone_o (ob := [(((p0.held).map eLock).length, (p0.held).length), (((p0.wait).map eLock).length, (p0.wait).length)]) (listed' := #[true, true, true, true, true, true, true, true, true, true]) (st1 := mk 12 [(2, .one (.pl [(2, 0)] 0 0))] [(2, [.bx [.sl 6 ((p0.held).map eLock), .sl 6 ((p0.wait).map eLock)]])]) [2] tyOK (by as_aux_lemma => kernel_rfl) ⟨by simp, by simp, trivial⟩ (by as_aux_lemma => kernel_rfl) (by as_aux_lemma => kernel_rfl) ?_
          refine aa_done (by as_aux_lemma => kernel_rfl) ?_
          show _ = _; kernel_rfl
        refine aa_cons ?_ aa_nil
        refine aone_any (listed' := #[true, true, true, false, false, true, true, false, false, false]) (st1 := mk 12 [(2, .one (.pl [(2, 0)] 0 0)), (3, .one (.so [] 3 0 0)), (5, .one (.c (.sl 6 ((p0.held).map eLock)))), (9, .one (.c (.sl 6 ((p0.wait).map eLock))))] [(2, [.bx [.sl 6 ([]), .sl 6 ([])]]), (3, [.sl 6 ([])])]) [2, 3, 5, 9] tyOK (by as_aux_lemma => kernel_rfl) (by as_aux_lemma => kernel_rfl) ?_
        refine aa_all [3, 4] (by as_aux_lemma => kernel_rfl) rfl ?_
        refine aa_cons ?_ ?_
        · refine aone_append (listed' := #[true, true, true, true, false, true, true, false, false, false]) (d := 6) (n := 0) (n' := ((p0.held).length)) (bytes := 64) (size := 6) (src := (some ([], 3, 0))) (rows := []) (tx := .one (.c (.sl 6 ((p0.held).map eLock)))) (new := ((p0.held).map eLock).map (List.map frzC)) (rows' := (p0.held).map eLock) (st1 := mk 12 [(2, .one (.pl [(2, 0)] 0 0)), (6, .one (.so [] 6 0 ((p0.held).length))), (9, .one (.c (.sl 6 ((p0.wait).map eLock))))] [(2, [.bx [.sl 6 ([]), .sl 6 ([])]]), (6, [.sl 6 ((p0.held).map eLock)])]) [2, 6, 9] tyOK (by as_aux_lemma => kernel_rfl) (appRows_fz (by simp [bC, eLock, eRange, eTx, frzC, iC, sC])) (by simp) (by simpa using c1) (by as_aux_lemma => kernel_rfl) (by simp [bC, eLock, eRange, eTx, frzC, iC, sC]) (by simp) (by as_aux_lemma => kernel_rfl) (by as_aux_lemma => kernel_rfl) (by as_aux_lemma => kernel_rfl) ?_
          refine aa_all [4] (by as_aux_lemma => kernel_rfl) rfl ?_
          refine aa_cons ?_ aa_nil
          refine aone_any (listed' := #[true, true, true, true, true, true, true, false, false, false]) (st1 := mk 12 [(2, .one (.pl [(2, 0)] 0 0)), (6, .one (.so [] 6 0 ((p0.held).length))), (7, .one (.so [] 7 0 0)), (9, .one (.c (.sl 6 ((p0.wait).map eLock))))] [(2, [.bx [.sl 6 ([]), .sl 6 ([])]]), (6, [.sl 6 ((p0.held).map eLock)]), (7, [.sl 6 ([])])]) [2, 6, 7, 9] tyOK (by as_aux_lemma => kernel_rfl) (by as_aux_lemma => kernel_rfl) ?_
          refine aa_all [7] (by as_aux_lemma => kernel_rfl) rfl ?_
          refine aa_cons ?_ aa_nil
          refine aone_append (listed' := #[true, true, true, true, true, true, true, true, false, false]) (d := 10) (n := 0) (n' := ((p0.wait).length)) (bytes := 64) (size := 6) (src := (some ([], 7, 0))) (rows := []) (tx := .one (.c (.sl 6 ((p0.wait).map eLock)))) (new := ((p0.wait).map eLock).map (List.map frzC)) (rows' := (p0.wait).map eLock) (st1 := mk 12 [(2, .one (.pl [(2, 0)] 0 0)), (6, .one (.so [] 6 0 ((p0.held).length))), (10, .one (.so [] 10 0 ((p0.wait).length)))] [(2, [.bx [.sl 6 ([]), .sl 6 ([])]]), (6, [.sl 6 ((p0.held).map eLock)]), (10, [.sl 6 ((p0.wait).map eLock)])]) [2, 6, 10] tyOK (by as_aux_lemma => kernel_rfl) (appRows_fz (by simp [bC, eLock, eRange, eTx, frzC, iC, sC])) (by simp) (by simpa using c2) (by as_aux_lemma => kernel_rfl) (by simp [bC, eLock, eRange, eTx, frzC, iC, sC]) (by simp) (by as_aux_lemma => kernel_rfl) (by as_aux_lemma => kernel_rfl) (by as_aux_lemma => kernel_rfl) ?_
          refine aa_all [8] (by as_aux_lemma => kernel_rfl) rfl ?_
          refine aa_cons ?_ aa_nil
          refine aone_any (listed' := #[true, true, true, true, true, true, true, true, true, false]) (st1 := mk 12 [(2, .one (.pl [(2, 0)] 0 0)), (11, .agg [.so [] 6 0 ((p0.held).length), .so [] 10 0 ((p0.wait).length)])] [(2, [.bx [.sl 6 ([]), .sl 6 ([])]]), (6, [.sl 6 ((p0.held).map eLock)]), (10, [.sl 6 ((p0.wait).map eLock)])]) [2, 11] tyOK (by as_aux_lemma => kernel_rfl) (by as_aux_lemma => kernel_rfl) ?_
          refine aa_all [9] (by as_aux_lemma => kernel_rfl) rfl ?_
          refine aa_cons ?_ aa_nil
          refine aone_o (ob := [(((p0.held).map eLock).length, (p0.held).length), (((p0.wait).map eLock).length, (p0.wait).length)]) (listed' := #[true, true, true, true, true, true, true, true, true, true]) (st1 := mk 12 [(2, .one (.pl [(2, 0)] 0 0))] [(2, [.bx [.sl 6 ((p0.held).map eLock), .sl 6 ((p0.wait).map eLock)]])]) [2] tyOK (by as_aux_lemma => kernel_rfl) ⟨by simp, by simp, trivial⟩ (by as_aux_lemma => kernel_rfl) (by as_aux_lemma => kernel_rfl) ?_
          refine aa_done (by as_aux_lemma => kernel_rfl) ?_
          show _ = _; kernel_rfl
        refine aa_cons ?_ aa_nil
        refine aone_any (listed' := #[true, true, true, false, true, true, true, false, false, false]) (st1 := mk 12 [(2, .one (.pl [(2, 0)] 0 0)), (3, .one (.so [] 3 0 0)), (5, .one (.c (.sl 6 ((p0.held).map eLock)))), (7, .one (.so [] 7 0 0)), (9, .one (.c (.sl 6 ((p0.wait).map eLock))))] [(2, [.bx [.sl 6 ([]), .sl 6 ([])]]), (3, [.sl 6 ([])]), (7, [.sl 6 ([])])]) [2, 3, 5, 7, 9] tyOK (by as_aux_lemma => kernel_rfl) (by as_aux_lemma => kernel_rfl) ?_
        refine aa_all [3] (by as_aux_lemma => kernel_rfl) rfl ?_
        refine aa_cons ?_ aa_nil
        refine aone_append (listed' := #[true, true, true, true, true, true, true, false, false, false]) (d := 6) (n := 0) (n' := ((p0.held).length)) (bytes := 64) (size := 6) (src := (some ([], 3, 0))) (rows := []) (tx := .one (.c (.sl 6 ((p0.held).map eLock)))) (new := ((p0.held).map eLock).map (List.map frzC)) (rows' := (p0.held).map eLock) (st1 := mk 12 [(2, .one (.pl [(2, 0)] 0 0)), (6, .one (.so [] 6 0 ((p0.held).length))), (7, .one (.so [] 7 0 0)), (9, .one (.c (.sl 6 ((p0.wait).map eLock))))] [(2, [.bx [.sl 6 ([]), .sl 6 ([])]]), (6, [.sl 6 ((p0.held).map eLock)]), (7, [.sl 6 ([])])]) [2, 6, 7, 9] tyOK (by as_aux_lemma => kernel_rfl) (appRows_fz (by simp [bC, eLock, eRange, eTx, frzC, iC, sC])) (by simp) (by simpa using c1) (by as_aux_lemma => kernel_rfl) (by simp [bC, eLock, eRange, eTx, frzC, iC, sC]) (by simp) (by as_aux_lemma => kernel_rfl) (by as_aux_lemma => kernel_rfl) (by as_aux_lemma => kernel_rfl) ?_
        refine aa_all [7] (by as_aux_lemma => kernel_rfl) rfl ?_
        refine aa_cons ?_ aa_nil
        refine aone_append (listed' := #[true, true, true, true, true, true, true, true, false, false]) (d := 10) (n := 0) (n' := ((p0.wait).length)) (bytes := 64) (size := 6) (src := (some ([], 7, 0))) (rows := []) (tx := .one (.c (.sl 6 ((p0.wait).map eLock)))) (new := ((p0.wait).map eLock).map (List.map frzC)) (rows' := (p0.wait).map eLock) (st1 := mk 12 [(2, .one (.pl [(2, 0)] 0 0)), (6, .one (.so [] 6 0 ((p0.held).length))), (10, .one (.so [] 10 0 ((p0.wait).length)))] [(2, [.bx [.sl 6 ([]), .sl 6 ([])]]), (6, [.sl 6 ((p0.held).map eLock)]), (10, [.sl 6 ((p0.wait).map eLock)])]) [2, 6, 10] tyOK (by as_aux_lemma => kernel_rfl) (appRows_fz (by simp [bC, eLock, eRange, eTx, frzC, iC, sC])) (by simp) (by simpa using c2) (by as_aux_lemma => kernel_rfl) (by simp [bC, eLock, eRange, eTx, frzC, iC, sC]) (by simp) (by as_aux_lemma => kernel_rfl) (by as_aux_lemma => kernel_rfl) (by as_aux_lemma => kernel_rfl) ?_
        refine aa_all [8] (by as_aux_lemma => kernel_rfl) rfl ?_
        refine aa_cons ?_ aa_nil
        refine aone_any (listed' := #[true, true, true, true, true, true, true, true, true, false]) (st1 := mk 12 [(2, .one (.pl [(2, 0)] 0 0)), (11, .agg [.so [] 6 0 ((p0.held).length), .so [] 10 0 ((p0.wait).length)])] [(2, [.bx [.sl 6 ([]), .sl 6 ([])]]), (6, [.sl 6 ((p0.held).map eLock)]), (10, [.sl 6 ((p0.wait).map eLock)])]) [2, 11] tyOK (by as_aux_lemma => kernel_rfl) (by as_aux_lemma => kernel_rfl) ?_
        refine aa_all [9] (by as_aux_lemma => kernel_rfl) rfl ?_
        refine aa_cons ?_ aa_nil
        refine aone_o (ob := [(((p0.held).map eLock).length, (p0.held).length), (((p0.wait).map eLock).length, (p0.wait).length)]) (listed' := #[true, true, true, true, true, true, true, true, true, true]) (st1 := mk 12 [(2, .one (.pl [(2, 0)] 0 0))] [(2, [.bx [.sl 6 ((p0.held).map eLock), .sl 6 ((p0.wait).map eLock)]])]) [2] tyOK (by as_aux_lemma => kernel_rfl) ⟨by simp, by simp, trivial⟩ (by as_aux_lemma => kernel_rfl) (by as_aux_lemma => kernel_rfl) ?_
        refine aa_done (by as_aux_lemma => kernel_rfl) ?_
        show _ = _; kernel_rfl
      refine aa_cons ?_ ?_
      · refine aone_any (listed' := #[false, true, true, false, true, false, false, false, false, false]) (st1 := mk 12 [(1, .one (.pl [(1, 0)] 0 0)), (2, .one (.pl [(2, 0)] 0 0)), (5, .one (.c (.sl 6 ((p0.held).map eLock)))), (7, .one (.so [] 7 0 0))] [(1, [.bx [.fz (.sl 6 ((p0.held).map eLock)), .fz (.sl 6 ((p0.wait).map eLock))]]), (2, [.bx [.sl 6 ([]), .sl 6 ([])]]), (7, [.sl 6 ([])])]) [1, 2, 5, 7] tyOK (by as_aux_lemma => kernel_rfl) (by as_aux_lemma => kernel_rfl) ?_
        refine aa_all [0, 5] (by as_aux_lemma => kernel_rfl) rfl ?_
        refine aa_cons ?_ ?_
        · refine aone_any (listed' := #[true, true, true, false, true, false, false, false, false, false]) (st1 := mk 12 [(1, .one (.pl [(1, 0)] 0 0)), (2, .one (.pl [(2, 0)] 0 0)), (3, .one (.so [] 3 0 0)), (5, .one (.c (.sl 6 ((p0.held).map eLock)))), (7, .one (.so [] 7 0 0))] [(1, [.bx [.fz (.sl 6 ((p0.held).map eLock)), .fz (.sl 6 ((p0.wait).map eLock))]]), (2, [.bx [.sl 6 ([]), .sl 6 ([])]]), (3, [.sl 6 ([])]), (7, [.sl 6 ([])])]) [1, 2, 3, 5, 7] tyOK (by as_aux_lemma => kernel_rfl) (by as_aux_lemma => kernel_rfl) ?_
          refine aa_all [3, 5] (by as_aux_lemma => kernel_rfl) rfl ?_
          refine aa_cons ?_ ?_
          · refine aone_append (listed' := #[true, true, true, true, true, false, false, false, false, false]) (d := 6) (n := 0) (n' := ((p0.held).length)) (bytes := 64) (size := 6) (src := (some ([], 3, 0))) (rows := []) (tx := .one (.c (.sl 6 ((p0.held).map eLock)))) (new := ((p0.held).map eLock).map (List.map frzC)) (rows' := (p0.held).map eLock) (st1 := mk 12 [(1, .one (.pl [(1, 0)] 0 0)), (2, .one (.pl [(2, 0)] 0 0)), (6, .one (.so [] 6 0 ((p0.held).length))), (7, .one (.so [] 7 0 0))] [(1, [.bx [.fz (.sl 6 ((p0.held).map eLock)), .fz (.sl 6 ((p0.wait).map eLock))]]), (2, [.bx [.sl 6 ([]), .sl 6 ([])]]), (6, [.sl 6 ((p0.held).map eLock)]), (7, [.sl 6 ([])])]) [1, 2, 6, 7] tyOK (by as_aux_lemma => kernel_rfl) (appRows_fz (by simp [bC, eLock, eRange, eTx, frzC, iC, sC])) (by simp) (by simpa using c1) (by as_aux_lemma => kernel_rfl) (by simp [bC, eLock, eRange, eTx, frzC, iC, sC]) (by simp) (by as_aux_lemma => kernel_rfl) (by as_aux_lemma => kernel_rfl) (by as_aux_lemma => kernel_rfl) ?_
            refine aa_take (fuel := 3) (listed' := #[true, true, true, true, true, true, true, false, false, false]) (st' := mk 12 [(2, .one (.pl [(2, 0)] 0 0)), (6, .one (.so [] 6 0 ((p0.held).length))), (7, .one (.so [] 7 0 0)), (9, .one (.c (.sl 6 ((p0.wait).map eLock))))] [(2, [.bx [.sl 6 ([]), .sl 6 ([])]]), (6, [.sl 6 ((p0.held).map eLock)]), (7, [.sl 6 ([])])]) [5, 6] [2, 6, 7, 9] tyOK (by as_aux_lemma => kernel_rfl) (by as_aux_lemma => kernel_rfl) (by as_aux_lemma => kernel_rfl) ?_
            refine aa_all [7] (by as_aux_lemma => kernel_rfl) rfl ?_
            refine aa_cons ?_ aa_nil
            refine aone_append (listed' := #[true, true, true, true, true, true, true, true, false, false]) (d := 10) (n := 0) (n' := ((p0.wait).length)) (bytes := 64) (size := 6) (src := (some ([], 7, 0))) (rows := []) (tx := .one (.c (.sl 6 ((p0.wait).map eLock)))) (new := ((p0.wait).map eLock).map (List.map frzC)) (rows' := (p0.wait).map eLock) (st1 := mk 12 [(2, .one (.pl [(2, 0)] 0 0)), (6, .one (.so [] 6 0 ((p0.held).length))), (10, .one (.so [] 10 0 ((p0.wait).length)))] [(2, [.bx [.sl 6 ([]), .sl 6 ([])]]), (6, [.sl 6 ((p0.held).map eLock)]), (10, [.sl 6 ((p0.wait).map eLock)])]) [2, 6, 10] tyOK (by as_aux_lemma => kernel_rfl) (appRows_fz (by simp [bC, eLock, eRange, eTx, frzC, iC, sC])) (by simp) (by simpa using c2) (by as_aux_lemma => kernel_rfl) (by simp [bC, eLock, eRange, eTx, frzC, iC, sC]) (by simp) (by as_aux_lemma => kernel_rfl) (by as_aux_lemma => kernel_rfl) (by as_aux_lemma => kernel_rfl) ?_
            refine aa_all [8] (by as_aux_lemma => kernel_rfl) rfl ?_
            refine aa_cons ?_ aa_nil
            refine aone_any (listed' := #[true, true, true, true, true, true, true, true, true, false]) (st1 := mk 12 [(2, .one (.pl [(2, 0)] 0 0)), (11, .agg [.so [] 6 0 ((p0.held).length), .so [] 10 0 ((p0.wait).length)])] [(2, [.bx [.sl 6 ([]), .sl 6 ([])]]), (6, [.sl 6 ((p0.held).map eLock)]), (10, [.sl 6 ((p0.wait).map eLock)])]) [2, 11] tyOK (by as_aux_lemma => kernel_rfl) (by as_aux_lemma => kernel_rfl) ?_
            refine aa_all [9] (by as_aux_lemma => kernel_rfl) rfl ?_
            refine aa_cons ?_ aa_nil
            refine aone_o (ob := [(((p0.held).map eLock).length, (p0.held).length), (((p0.wait).map eLock).length, (p0.wait).length)]) (listed' := #[true, true, true, true, true, true, true, true, true, true]) (st1 := mk 12 [(2, .one (.pl [(2, 0)] 0 0))] [(2, [.bx [.sl 6 ((p0.held).map eLock), .sl 6 ((p0.wait).map eLock)]])]) [2] tyOK (by as_aux_lemma => kernel_rfl) ⟨by simp, by simp, trivial⟩ (by as_aux_lemma => kernel_rfl) (by as_aux_lemma => kernel_rfl) ?_
            refine aa_done (by as_aux_lemma => kernel_rfl) ?_
            show _ = _; kernel_rfl
          refine aa_cons ?_ aa_nil
          refine aone_any (listed' := #[true, true, true, false, true, true, false, false, false, false]) (st1 := mk 12 [(2, .one (.pl [(2, 0)] 0 0)), (3, .one (.so [] 3 0 0)), (5, .one (.c (.sl 6 ((p0.held).map eLock)))), (7, .one (.so [] 7 0 0)), (8, .one (.pl [(1, 0)] 0 1))] [(1, [.bx [.fz (.sl 6 ((p0.held).map eLock)), .fz (.sl 6 ((p0.wait).map eLock))]]), (2, [.bx [.sl 6 ([]), .sl 6 ([])]]), (3, [.sl 6 ([])]), (7, [.sl 6 ([])])]) [2, 3, 5, 7, 8] tyOK (by as_aux_lemma => kernel_rfl) (by as_aux_lemma => kernel_rfl) ?_
          refine aa_all [3, 6] (by as_aux_lemma => kernel_rfl) rfl ?_
          refine aa_cons ?_ ?_
          · refine aone_append (listed' := #[true, true, true, true, true, true, false, false, false, false]) (d := 6) (n := 0) (n' := ((p0.held).length)) (bytes := 64) (size := 6) (src := (some ([], 3, 0))) (rows := []) (tx := .one (.c (.sl 6 ((p0.held).map eLock)))) (new := ((p0.held).map eLock).map (List.map frzC)) (rows' := (p0.held).map eLock) (st1 := mk 12 [(2, .one (.pl [(2, 0)] 0 0)), (6, .one (.so [] 6 0 ((p0.held).length))), (7, .one (.so [] 7 0 0)), (8, .one (.pl [(1, 0)] 0 1))] [(1, [.bx [.fz (.sl 6 ((p0.held).map eLock)), .fz (.sl 6 ((p0.wait).map eLock))]]), (2, [.bx [.sl 6 ([]), .sl 6 ([])]]), (6, [.sl 6 ((p0.held).map eLock)]), (7, [.sl 6 ([])])]) [2, 6, 7, 8] tyOK (by as_aux_lemma => kernel_rfl) (appRows_fz (by simp [bC, eLock, eRange, eTx, frzC, iC, sC])) (by simp) (by simpa using c1) (by as_aux_lemma => kernel_rfl) (by simp [bC, eLock, eRange, eTx, frzC, iC, sC]) (by simp) (by as_aux_lemma => kernel_rfl) (by as_aux_lemma => kernel_rfl) (by as_aux_lemma => kernel_rfl) ?_
            refine aa_take (fuel := 3) (listed' := #[true, true, true, true, true, true, true, false, false, false]) (st' := mk 12 [(2, .one (.pl [(2, 0)] 0 0)), (6, .one (.so [] 6 0 ((p0.held).length))), (7, .one (.so [] 7 0 0)), (9, .one (.c (.sl 6 ((p0.wait).map eLock))))] [(2, [.bx [.sl 6 ([]), .sl 6 ([])]]), (6, [.sl 6 ((p0.held).map eLock)]), (7, [.sl 6 ([])])]) [6] [2, 6, 7, 9] tyOK (by as_aux_lemma => kernel_rfl) (by as_aux_lemma => kernel_rfl) (by as_aux_lemma => kernel_rfl) ?_
            refine aa_all [7] (by as_aux_lemma => kernel_rfl) rfl ?_
            refine aa_cons ?_ aa_nil
            refine aone_append (listed' := #[true, true, true, true, true, true, true, true, false, false]) (d := 10) (n := 0) (n' := ((p0.wait).length)) (bytes := 64) (size := 6) (src := (some ([], 7, 0))) (rows := []) (tx := .one (.c (.sl 6 ((p0.wait).map eLock)))) (new := ((p0.wait).map eLock).map (List.map frzC)) (rows' := (p0.wait).map eLock) (st1 := mk 12 [(2, .one (.pl [(2, 0)] 0 0)), (6, .one (.so [] 6 0 ((p0.held).length))), (10, .one (.so [] 10 0 ((p0.wait).length)))] [(2, [.bx [.sl 6 ([]), .sl 6 ([])]]), (6, [.sl 6 ((p0.held).map eLock)]), (10, [.sl 6 ((p0.wait).map eLock)])]) [2, 6, 10] tyOK (by as_aux_lemma => kernel_rfl) (appRows_fz (by simp [bC, eLock, eRange, eTx, frzC, iC, sC])) (by simp) (by simpa using c2) (by as_aux_lemma => kernel_rfl) (by simp [bC, eLock, eRange, eTx, frzC, iC, sC]) (by simp) (by as_aux_lemma => kernel_rfl) (by as_aux_lemma => kernel_rfl) (by as_aux_lemma => kernel_rfl) ?_
            refine aa_all [8] (by as_aux_lemma => kernel_rfl) rfl ?_
            refine aa_cons ?_ aa_nil
            refine aone_any (listed' := #[true, true, true, true, true, true, true, true, true, false]) (st1 := mk 12 [(2, .one (.pl [(2, 0)] 0 0)), (11, .agg [.so [] 6 0 ((p0.held).length), .so [] 10 0 ((p0.wait).length)])] [(2, [.bx [.sl 6 ([]), .sl 6 ([])]]), (6, [.sl 6 ((p0.held).map eLock)]), (10, [.sl 6 ((p0.wait).map eLock)])]) [2, 11] tyOK (by as_aux_lemma => kernel_rfl) (by as_aux_lemma => kernel_rfl) ?_
            refine aa_all [9] (by as_aux_lemma => kernel_rfl) rfl ?_
            refine aa_cons ?_ aa_nil
            refine aone_o (ob := [(((p0.held).map eLock).length, (p0.held).length), (((p0.wait).map eLock).length, (p0.wait).length)]) (listed' := #[true, true, true, true, true, true, true, true, true, true]) (st1 := mk 12 [(2, .one (.pl [(2, 0)] 0 0))] [(2, [.bx [.sl 6 ((p0.held).map eLock), .sl 6 ((p0.wait).map eLock)]])]) [2] tyOK (by as_aux_lemma => kernel_rfl) ⟨by simp, by simp, trivial⟩ (by as_aux_lemma => kernel_rfl) (by as_aux_lemma => kernel_rfl) ?_
            refine aa_done (by as_aux_lemma => kernel_rfl) ?_
            show _ = _; kernel_rfl
          refine aa_cons ?_ aa_nil
          refine aone_any (listed' := #[true, true, true, false, true, true, true, false, false, false]) (st1 := mk 12 [(2, .one (.pl [(2, 0)] 0 0)), (3, .one (.so [] 3 0 0)), (5, .one (.c (.sl 6 ((p0.held).map eLock)))), (7, .one (.so [] 7 0 0)), (9, .one (.c (.sl 6 ((p0.wait).map eLock))))] [(2, [.bx [.sl 6 ([]), .sl 6 ([])]]), (3, [.sl 6 ([])]), (7, [.sl 6 ([])])]) [2, 3, 5, 7, 9] tyOK (by as_aux_lemma => kernel_rfl) (by as_aux_lemma => kernel_rfl) ?_
          refine aa_all [3] (by as_aux_lemma => kernel_rfl) rfl ?_
          refine aa_cons ?_ aa_nil
          refine aone_append (listed' := #[true, true, true, true, true, true, true, false, false, false]) (d := 6) (n := 0) (n' := ((p0.held).length)) (bytes := 64) (size := 6) (src := (some ([], 3, 0))) (rows := []) (tx := .one (.c (.sl 6 ((p0.held).map eLock)))) (new := ((p0.held).map eLock).map (List.map frzC)) (rows' := (p0.held).map eLock) (st1 := mk 12 [(2, .one (.pl [(2, 0)] 0 0)), (6, .one (.so [] 6 0 ((p0.held).length))), (7, .one (.so [] 7 0 0)), (9, .one (.c (.sl 6 ((p0.wait).map eLock))))] [(2, [.bx [.sl 6 ([]), .sl 6 ([])]]), (6, [.sl 6 ((p0.held).map eLock)]), (7, [.sl 6 ([])])]) [2, 6, 7, 9] tyOK (by as_aux_lemma => kernel_rfl) (appRows_fz (by simp [bC, eLock, eRange, eTx, frzC, iC, sC])) (by simp) (by simpa using c1) (by as_aux_lemma => kernel_rfl) (by simp [bC, eLock, eRange, eTx, frzC, iC, sC]) (by simp) (by as_aux_lemma => kernel_rfl) (by as_aux_lemma => kernel_rfl) (by as_aux_lemma => kernel_rfl) ?_
          refine aa_all [7] (by as_aux_lemma => kernel_rfl) rfl ?_
          refine aa_cons ?_ aa_nil
          refine aone_append (listed' := #[true, true, true, true, true, true, true, true, false, false]) (d := 10) (n := 0) (n' := ((p0.wait).length)) (bytes := 64) (size := 6) (src := (some ([], 7, 0))) (rows := []) (tx := .one (.c (.sl 6 ((p0.wait).map eLock)))) (new := ((p0.wait).map eLock).map (List.map frzC)) (rows' := (p0.wait).map eLock) (st1 := mk 12 [(2, .one (.pl [(2, 0)] 0 0)), (6, .one (.so [] 6 0 ((p0.held).length))), (10, .one (.so [] 10 0 ((p0.wait).length)))] [(2, [.bx [.sl 6 ([]), .sl 6 ([])]]), (6, [.sl 6 ((p0.held).map eLock)]), (10, [.sl 6 ((p0.wait).map eLock)])]) [2, 6, 10] tyOK (by as_aux_lemma => kernel_rfl) (appRows_fz (by simp [bC, eLock, eRange, eTx, frzC, iC, sC])) (by simp) (by simpa using c2) (by as_aux_lemma => kernel_rfl) (by simp [bC, eLock, eRange, eTx, frzC, iC, sC]) (by simp) (by as_aux_lemma => kernel_rfl) (by as_aux_lemma => kernel_rfl) (by as_aux_lemma => kernel_rfl) ?_
          refine aa_all [8] (by as_aux_lemma => kernel_rfl) rfl ?_
          refine aa_cons ?_ aa_nil
          refine aone_any (listed' := #[true, true, true, true, true, true, true, true, true, false]) (st1 := mk 12 [(2, .one (.pl [(2, 0)] 0 0)), (11, .agg [.so [] 6 0 ((p0.held).length), .so [] 10 0 ((p0.wait).length)])] [(2, [.bx [.sl 6 ([]), .sl 6 ([])]]), (6, [.sl 6 ((p0.held).map eLock)]), (10, [.sl 6 ((p0.wait).map eLock)])]) [2, 11] tyOK (by as_aux_lemma => kernel_rfl) (by as_aux_lemma => kernel_rfl) ?_
          refine aa_all [9] (by as_aux_lemma => kernel_rfl) rfl ?_
          refine aa_cons ?_ aa_nil
          refine aone_o (ob := [(((p0.held).map eLock).length, (p0.held).length), (((p0.wait).map eLock).length, (p0.wait).length)]) (listed' := #[true, true, true, true, true, true, true, true, true, true]) (st1 := mk 12 [(2, .one (.pl [(2, 0)] 0 0))] [(2, [.bx [.sl 6 ((p0.held).map eLock), .sl 6 ((p0.wait).map eLock)]])]) [2] tyOK (by as_aux_lemma => kernel_rfl) ⟨by simp, by simp, trivial⟩ (by as_aux_lemma => kernel_rfl) (by as_aux_lemma => kernel_rfl) ?_
          refine aa_done (by as_aux_lemma => kernel_rfl) ?_
          show _ = _; kernel_rfl
        refine aa_cons ?_ aa_nil
        refine aone_any (listed' := #[false, true, true, false, true, true, false, false, false, false]) (st1 := mk 12 [(2, .one (.pl [(2, 0)] 0 0)), (5, .one (.c (.sl 6 ((p0.held).map eLock)))), (7, .one (.so [] 7 0 0)), (8, .one (.pl [(1, 0)] 0 1))] [(1, [.bx [.fz (.sl 6 ((p0.held).map eLock)), .fz (.sl 6 ((p0.wait).map eLock))]]), (2, [.bx [.sl 6 ([]), .sl 6 ([])]]), (7, [.sl 6 ([])])]) [2, 5, 7, 8] tyOK (by as_aux_lemma => kernel_rfl) (by as_aux_lemma => kernel_rfl) ?_
        refine aa_all [0, 6] (by as_aux_lemma => kernel_rfl) rfl ?_
        refine aa_cons ?_ ?_
        · refine aone_any (listed' := #[true, true, true, false, true, true, false, false, false, false]) (st1 := mk 12 [(2, .one (.pl [(2, 0)] 0 0)), (3, .one (.so [] 3 0 0)), (5, .one (.c (.sl 6 ((p0.held).map eLock)))), (7, .one (.so [] 7 0 0)), (8, .one (.pl [(1, 0)] 0 1))] [(1, [.bx [.fz (.sl 6 ((p0.held).map eLock)), .fz (.sl 6 ((p0.wait).map eLock))]]), (2, [.bx [.sl 6 ([]), .sl 6 ([])]]), (3, [.sl 6 ([])]), (7, [.sl 6 ([])])]) [2, 3, 5, 7, 8] tyOK (by as_aux_lemma => kernel_rfl) (by as_aux_lemma => kernel_rfl) ?_
          refine aa_all [3, 6] (by as_aux_lemma => kernel_rfl) rfl ?_
          refine aa_cons ?_ ?_
          · refine aone_append (listed' := #[true, true, true, true, true, true, false, false, false, false]) (d := 6) (n := 0) (n' := ((p0.held).length)) (bytes := 64) (size := 6) (src := (some ([], 3, 0))) (rows := []) (tx := .one (.c (.sl 6 ((p0.held).map eLock)))) (new := ((p0.held).map eLock).map (List.map frzC)) (rows' := (p0.held).map eLock) (st1 := mk 12 [(2, .one (.pl [(2, 0)] 0 0)), (6, .one (.so [] 6 0 ((p0.held).length))), (7, .one (.so [] 7 0 0)), (8, .one (.pl [(1, 0)] 0 1))] [(1, [.bx [.fz (.sl 6 ((p0.held).map eLock)), .fz (.sl 6 ((p0.wait).map eLock))]]), (2, [.bx [.sl 6 ([]), .sl 6 ([])]]), (6, [.sl 6 ((p0.held).map eLock)]), (7, [.sl 6 ([])])]) [2, 6, 7, 8] tyOK (by as_aux_lemma => kernel_rfl) (appRows_fz (by simp [bC, eLock, eRange, eTx, frzC, iC, sC])) (by simp) (by simpa using c1) (by as_aux_lemma => kernel_rfl) (by simp [bC, eLock, eRange, eTx, frzC, iC, sC]) (by simp) (by as_aux_lemma => kernel_rfl) (by as_aux_lemma => kernel_rfl) (by as_aux_lemma => kernel_rfl) ?_
            refine aa_take (fuel := 3) (listed' := #[true, true, true, true, true, true, true, false, false, false]) (st' := mk 12 [(2, .one (.pl [(2, 0)] 0 0)), (6, .one (.so [] 6 0 ((p0.held).length))), (7, .one (.so [] 7 0 0)), (9, .one (.c (.sl 6 ((p0.wait).map eLock))))] [(2, [.bx [.sl 6 ([]), .sl 6 ([])]]), (6, [.sl 6 ((p0.held).map eLock)]), (7, [.sl 6 ([])])]) [6] [2, 6, 7, 9] tyOK (by as_aux_lemma => kernel_rfl) (by as_aux_lemma => kernel_rfl) (by as_aux_lemma => kernel_rfl) ?_
            refine aa_all [7] (by as_aux_lemma => kernel_rfl) rfl ?_
            refine aa_cons ?_ aa_nil
            refine aone_append (listed' := #[true, true, true, true, true, true, true, true, false, false]) (d := 10) (n := 0) (n' := ((p0.wait).length)) (bytes := 64) (size := 6) (src := (some ([], 7, 0))) (rows := []) (tx := .one (.c (.sl 6 ((p0.wait).map eLock)))) (new := ((p0.wait).map eLock).map (List.map frzC)) (rows' := (p0.wait).map eLock) (st1 := mk 12 [(2, .one (.pl [(2, 0)] 0 0)), (6, .one (.so [] 6 0 ((p0.held).length))), (10, .one (.so [] 10 0 ((p0.wait).length)))] [(2, [.bx [.sl 6 ([]), .sl 6 ([])]]), (6, [.sl 6 ((p0.held).map eLock)]), (10, [.sl 6 ((p0.wait).map eLock)])]) [2, 6, 10] tyOK (by as_aux_lemma => kernel_rfl) (appRows_fz (by simp [bC, eLock, eRange, eTx, frzC, iC, sC])) (by simp) (by simpa using c2) (by as_aux_lemma => kernel_rfl) (by simp [bC, eLock, eRange, eTx, frzC, iC, sC]) (by simp) (by as_aux_lemma => kernel_rfl) (by as_aux_lemma => kernel_rfl) (by as_aux_lemma => kernel_rfl) ?_
            refine aa_all [8] (by as_aux_lemma => kernel_rfl) rfl ?_
            refine aa_cons ?_ aa_nil
            refine aone_any (listed' := #[true, true, true, true, true, true, true, true, true, false]) (st1 := mk 12 [(2, .one (.pl [(2, 0)] 0 0)), (11, .agg [.so [] 6 0 ((p0.held).length), .so [] 10 0 ((p0.wait).length)])] [(2, [.bx [.sl 6 ([]), .sl 6 ([])]]), (6, [.sl 6 ((p0.held).map eLock)]), (10, [.sl 6 ((p0.wait).map eLock)])]) [2, 11] tyOK (by as_aux_lemma => kernel_rfl) (by as_aux_lemma => kernel_rfl) ?_
            refine aa_all [9] (by as_aux_lemma => kernel_rfl) rfl ?_
            refine aa_cons ?_ aa_nil
            refine aone_o (ob := [(((p0.held).map eLock).length, (p0.held).length), (((p0.wait).map eLock).length, (p0.wait).length)]) (listed' := #[true, true, true, true, true, true, true, true, true, true]) (st1 := mk 12 [(2, .one (.pl [(2, 0)] 0 0))] [(2, [.bx [.sl 6 ((p0.held).map eLock), .sl 6 ((p0.wait).map eLock)]])]) [2] tyOK (by as_aux_lemma => kernel_rfl) ⟨by simp, by simp, trivial⟩ (by as_aux_lemma => kernel_rfl) (by as_aux_lemma => kernel_rfl) ?_
            refine aa_done (by as_aux_lemma => kernel_rfl) ?_
            show _ = _; kernel_rfl
          refine aa_cons ?_ aa_nil
          refine aone_any (listed' := #[true, true, true, false, true, true, true, false, false, false]) (st1 := mk 12 [(2, .one (.pl [(2, 0)] 0 0)), (3, .one (.so [] 3 0 0)), (5, .one (.c (.sl 6 ((p0.held).map eLock)))), (7, .one (.so [] 7 0 0)), (9, .one (.c (.sl 6 ((p0.wait).map eLock))))] [(2, [.bx [.sl 6 ([]), .sl 6 ([])]]), (3, [.sl 6 ([])]), (7, [.sl 6 ([])])]) [2, 3, 5, 7, 9] tyOK (by as_aux_lemma => kernel_rfl) (by as_aux_lemma => kernel_rfl) ?_
          refine aa_all [3] (by as_aux_lemma => kernel_rfl) rfl ?_
          refine aa_cons ?_ aa_nil
          refine aone_append (listed' := #[true, true, true, true, true, true, true, false, false, false]) (d := 6) (n := 0) (n' := ((p0.held).length)) (bytes := 64) (size := 6) (src := (some ([], 3, 0))) (rows := []) (tx := .one (.c (.sl 6 ((p0.held).map eLock)))) (new := ((p0.held).map eLock).map (List.map frzC)) (rows' := (p0.held).map eLock) (st1 := mk 12 [(2, .one (.pl [(2, 0)] 0 0)), (6, .one (.so [] 6 0 ((p0.held).length))), (7, .one (.so [] 7 0 0)), (9, .one (.c (.sl 6 ((p0.wait).map eLock))))] [(2, [.bx [.sl 6 ([]), .sl 6 ([])]]), (6, [.sl 6 ((p0.held).map eLock)]), (7, [.sl 6 ([])])]) [2, 6, 7, 9] tyOK (by as_aux_lemma => kernel_rfl) (appRows_fz (by simp [bC, eLock, eRange, eTx, frzC, iC, sC])) (by simp) (by simpa using c1) (by as_aux_lemma => kernel_rfl) (by simp [bC, eLock, eRange, eTx, frzC, iC, sC]) (by simp) (by as_aux_lemma => kernel_rfl) (by as_aux_lemma => kernel_rfl) (by as_aux_lemma => kernel_rfl) ?_
          refine aa_all [7] (by as_aux_lemma => kernel_rfl) rfl ?_
          refine aa_cons ?_ aa_nil
          refine aone_append (listed' := #[true, true, true, true, true, true, true, true, false, false]) (d := 10) (n := 0) (n' := ((p0.wait).length)) (bytes := 64) (size := 6) (src := (some ([], 7, 0))) (rows := []) (tx := .one (.c (.sl 6 ((p0.wait).map eLock)))) (new := ((p0.wait).map eLock).map (List.map frzC)) (rows' := (p0.wait).map eLock) (st1 := mk 12 [(2, .one (.pl [(2, 0)] 0 0)), (6, .one (.so [] 6 0 ((p0.held).length))), (10, .one (.so [] 10 0 ((p0.wait).length)))] [(2, [.bx [.sl 6 ([]), .sl 6 ([])]]), (6, [.sl 6 ((p0.held).map eLock)]), (10, [.sl 6 ((p0.wait).map eLock)])]) [2, 6, 10] tyOK (by as_aux_lemma => kernel_rfl) (appRows_fz (by simp [bC, eLock, eRange, eTx, frzC, iC, sC])) (by simp) (by simpa using c2) (by as_aux_lemma => kernel_rfl) (by simp [bC, eLock, eRange, eTx, frzC, iC, sC]) (by simp) (by as_aux_lemma => kernel_rfl) (by as_aux_lemma => kernel_rfl) (by as_aux_lemma => kernel_rfl) ?_
          refine aa_all [8] (by as_aux_lemma => kernel_rfl) rfl ?_
          refine aa_cons ?_ aa_nil
          refine aone_any (listed' := #[true, true, true, true, true, true, true, true, true, false]) (st1 := mk 12 [(2, .one (.pl [(2, 0)] 0 0)), (11, .agg [.so [] 6 0 ((p0.held).length), .so [] 10 0 ((p0.wait).length)])] [(2, [.bx [.sl 6 ([]), .sl 6 ([])]]), (6, [.sl 6 ((p0.held).map eLock)]), (10, [.sl 6 ((p0.wait).map eLock)])]) [2, 11] tyOK (by as_aux_lemma => kernel_rfl) (by as_aux_lemma => kernel_rfl) ?_
          refine aa_all [9] (by as_aux_lemma => kernel_rfl) rfl ?_
          refine aa_cons ?_ aa_nil
          refine aone_o (ob := [(((p0.held).map eLock).length, (p0.held).length), (((p0.wait).map eLock).length, (p0.wait).length)]) (listed' := #[true, true, true, true, true, true, true, true, true, true]) (st1 := mk 12 [(2, .one (.pl [(2, 0)] 0 0))] [(2, [.bx [.sl 6 ((p0.held).map eLock), .sl 6 ((p0.wait).map eLock)]])]) [2] tyOK (by as_aux_lemma => kernel_rfl) ⟨by simp, by simp, trivial⟩ (by as_aux_lemma => kernel_rfl) (by as_aux_lemma => kernel_rfl) ?_
          refine aa_done (by as_aux_lemma => kernel_rfl) ?_
          show _ = _; kernel_rfl
        refine aa_cons ?_ aa_nil
        refine aone_any (listed' := #[false, true, true, false, true, true, true, false, false, false]) (st1 := mk 12 [(2, .one (.pl [(2, 0)] 0 0)), (5, .one (.c (.sl 6 ((p0.held).map eLock)))), (7, .one (.so [] 7 0 0)), (9, .one (.c (.sl 6 ((p0.wait).map eLock))))] [(2, [.bx [.sl 6 ([]), .sl 6 ([])]]), (7, [.sl 6 ([])])]) [2, 5, 7, 9] tyOK (by as_aux_lemma => kernel_rfl) (by as_aux_lemma => kernel_rfl) ?_
        refine aa_all [0] (by as_aux_lemma => kernel_rfl) rfl ?_
        refine aa_cons ?_ aa_nil
        refine aone_any (listed' := #[true, true, true, false, true, true, true, false, false, false]) (st1 := mk 12 [(2, .one (.pl [(2, 0)] 0 0)), (3, .one (.so [] 3 0 0)), (5, .one (.c (.sl 6 ((p0.held).map eLock)))), (7, .one (.so [] 7 0 0)), (9, .one (.c (.sl 6 ((p0.wait).map eLock))))] [(2, [.bx [.sl 6 ([]), .sl 6 ([])]]), (3, [.sl 6 ([])]), (7, [.sl 6 ([])])]) [2, 3, 5, 7, 9] tyOK (by as_aux_lemma => kernel_rfl) (by as_aux_lemma => kernel_rfl) ?_
        refine aa_all [3] (by as_aux_lemma => kernel_rfl) rfl ?_
        refine aa_cons ?_ aa_nil
        refine aone_append (listed' := #[true, true, true, true, true, true, true, false, false, false]) (d := 6) (n := 0) (n' := ((p0.held).length)) (bytes := 64) (size := 6) (src := (some ([], 3, 0))) (rows := []) (tx := .one (.c (.sl 6 ((p0.held).map eLock)))) (new := ((p0.held).map eLock).map (List.map frzC)) (rows' := (p0.held).map eLock) (st1 := mk 12 [(2, .one (.pl [(2, 0)] 0 0)), (6, .one (.so [] 6 0 ((p0.held).length))), (7, .one (.so [] 7 0 0)), (9, .one (.c (.sl 6 ((p0.wait).map eLock))))] [(2, [.bx [.sl 6 ([]), .sl 6 ([])]]), (6, [.sl 6 ((p0.held).map eLock)]), (7, [.sl 6 ([])])]) [2, 6, 7, 9] tyOK (by as_aux_lemma => kernel_rfl) (appRows_fz (by simp [bC, eLock, eRange, eTx, frzC, iC, sC])) (by simp) (by simpa using c1) (by as_aux_lemma => kernel_rfl) (by simp [bC, eLock, eRange, eTx, frzC, iC, sC]) (by simp) (by as_aux_lemma => kernel_rfl) (by as_aux_lemma => kernel_rfl) (by as_aux_lemma => kernel_rfl) ?_
        refine aa_all [7] (by as_aux_lemma => kernel_rfl) rfl ?_
        refine aa_cons ?_ aa_nil
        refine aone_append (listed' := #[true, true, true, true, true, true, true, true, false, false]) (d := 10) (n := 0) (n' := ((p0.wait).length)) (bytes := 64) (size := 6) (src := (some ([], 7, 0))) (rows := []) (tx := .one (.c (.sl 6 ((p0.wait).map eLock)))) (new := ((p0.wait).map eLock).map (List.map frzC)) (rows' := (p0.wait).map eLock) (st1 := mk 12 [(2, .one (.pl [(2, 0)] 0 0)), (6, .one (.so [] 6 0 ((p0.held).length))), (10, .one (.so [] 10 0 ((p0.wait).length)))] [(2, [.bx [.sl 6 ([]), .sl 6 ([])]]), (6, [.sl 6 ((p0.held).map eLock)]), (10, [.sl 6 ((p0.wait).map eLock)])]) [2, 6, 10] tyOK (by as_aux_lemma => kernel_rfl) (appRows_fz (by simp [bC, eLock, eRange, eTx, frzC, iC, sC])) (by simp) (by simpa using c2) (by as_aux_lemma => kernel_rfl) (by simp [bC, eLock, eRange, eTx, frzC, iC, sC]) (by simp) (by as_aux_lemma => kernel_rfl) (by as_aux_lemma => kernel_rfl) (by as_aux_lemma => kernel_rfl) ?_
        refine aa_all [8] (by as_aux_lemma => kernel_rfl) rfl ?_
        refine aa_cons ?_ aa_nil
        refine aone_any (listed' := #[true, true, true, true, true, true, true, true, true, false]) (st1 := mk 12 [(2, .one (.pl [(2, 0)] 0 0)), (11, .agg [.so [] 6 0 ((p0.held).length), .so [] 10 0 ((p0.wait).length)])] [(2, [.bx [.sl 6 ([]), .sl 6 ([])]]), (6, [.sl 6 ((p0.held).map eLock)]), (10, [.sl 6 ((p0.wait).map eLock)])]) [2, 11] tyOK (by as_aux_lemma => kernel_rfl) (by as_aux_lemma => kernel_rfl) ?_
        refine aa_all [9] (by as_aux_lemma => kernel_rfl) rfl ?_
        refine aa_cons ?_ aa_nil
        refine aone_o (ob := [(((p0.held).map eLock).length, (p0.held).length), (((p0.wait).map eLock).length, (p0.wait).length)]) (listed' := #[true, true, true, true, true, true, true, true, true, true]) (st1 := mk 12 [(2, .one (.pl [(2, 0)] 0 0))] [(2, [.bx [.sl 6 ((p0.held).map eLock), .sl 6 ((p0.wait).map eLock)]])]) [2] tyOK (by as_aux_lemma => kernel_rfl) ⟨by simp, by simp, trivial⟩ (by as_aux_lemma => kernel_rfl) (by as_aux_lemma => kernel_rfl) ?_
        refine aa_done (by as_aux_lemma => kernel_rfl) ?_
        show _ = _; kernel_rfl
      refine aa_cons ?_ aa_nil
      refine aone_any (listed' := #[false, true, true, false, false, true, false, false, false, false]) (st1 := mk 12 [(2, .one (.pl [(2, 0)] 0 0)), (5, .one (.c (.sl 6 ((p0.held).map eLock)))), (8, .one (.pl [(1, 0)] 0 1))] [(1, [.bx [.fz (.sl 6 ((p0.held).map eLock)), .fz (.sl 6 ((p0.wait).map eLock))]]), (2, [.bx [.sl 6 ([]), .sl 6 ([])]])]) [2, 5, 8] tyOK (by as_aux_lemma => kernel_rfl) (by as_aux_lemma => kernel_rfl) ?_
      refine aa_all [0, 4, 6] (by as_aux_lemma => kernel_rfl) rfl ?_
      refine aa_cons ?_ ?_
      · refine aone_any (listed' := #[true, true, true, false, false, true, false, false, false, false]) (st1 := mk 12 [(2, .one (.pl [(2, 0)] 0 0)), (3, .one (.so [] 3 0 0)), (5, .one (.c (.sl 6 ((p0.held).map eLock)))), (8, .one (.pl [(1, 0)] 0 1))] [(1, [.bx [.fz (.sl 6 ((p0.held).map eLock)), .fz (.sl 6 ((p0.wait).map eLock))]]), (2, [.bx [.sl 6 ([]), .sl 6 ([])]]), (3, [.sl 6 ([])])]) [2, 3, 5, 8] tyOK (by as_aux_lemma => kernel_rfl) (by as_aux_lemma => kernel_rfl) ?_
        refine aa_all [3, 4, 6] (by as_aux_lemma => kernel_rfl) rfl ?_
        refine aa_cons ?_ ?_
        · refine aone_append (listed' := #[true, true, true, true, false, true, false, false, false, false]) (d := 6) (n := 0) (n' := ((p0.held).length)) (bytes := 64) (size := 6) (src := (some ([], 3, 0))) (rows := []) (tx := .one (.c (.sl 6 ((p0.held).map eLock)))) (new := ((p0.held).map eLock).map (List.map frzC)) (rows' := (p0.held).map eLock) (st1 := mk 12 [(2, .one (.pl [(2, 0)] 0 0)), (6, .one (.so [] 6 0 ((p0.held).length))), (8, .one (.pl [(1, 0)] 0 1))] [(1, [.bx [.fz (.sl 6 ((p0.held).map eLock)), .fz (.sl 6 ((p0.wait).map eLock))]]), (2, [.bx [.sl 6 ([]), .sl 6 ([])]]), (6, [.sl 6 ((p0.held).map eLock)])]) [2, 6, 8] tyOK (by as_aux_lemma => kernel_rfl) (appRows_fz (by simp [bC, eLock, eRange, eTx, frzC, iC, sC])) (by simp) (by simpa using c1) (by as_aux_lemma => kernel_rfl) (by simp [bC, eLock, eRange, eTx, frzC, iC, sC]) (by simp) (by as_aux_lemma => kernel_rfl) (by as_aux_lemma => kernel_rfl) (by as_aux_lemma => kernel_rfl) ?_
          refine aa_take (fuel := 4) (listed' := #[true, true, true, true, false, true, true, false, false, false]) (st' := mk 12 [(2, .one (.pl [(2, 0)] 0 0)), (6, .one (.so [] 6 0 ((p0.held).length))), (9, .one (.c (.sl 6 ((p0.wait).map eLock))))] [(2, [.bx [.sl 6 ([]), .sl 6 ([])]]), (6, [.sl 6 ((p0.held).map eLock)])]) [6] [2, 6, 9] tyOK (by as_aux_lemma => kernel_rfl) (by as_aux_lemma => kernel_rfl) (by as_aux_lemma => kernel_rfl) ?_
          refine aa_all [4] (by as_aux_lemma => kernel_rfl) rfl ?_
          refine aa_cons ?_ aa_nil
          refine aone_any (listed' := #[true, true, true, true, true, true, true, false, false, false]) (st1 := mk 12 [(2, .one (.pl [(2, 0)] 0 0)), (6, .one (.so [] 6 0 ((p0.held).length))), (7, .one (.so [] 7 0 0)), (9, .one (.c (.sl 6 ((p0.wait).map eLock))))] [(2, [.bx [.sl 6 ([]), .sl 6 ([])]]), (6, [.sl 6 ((p0.held).map eLock)]), (7, [.sl 6 ([])])]) [2, 6, 7, 9] tyOK (by as_aux_lemma => kernel_rfl) (by as_aux_lemma => kernel_rfl) ?_
          refine aa_all [7] (by as_aux_lemma => kernel_rfl) rfl ?_
          refine aa_cons ?_ aa_nil
          refine aone_append (listed' := #[true, true, true, true, true, true, true, true, false, false]) (d := 10) (n := 0) (n' := ((p0.wait).length)) (bytes := 64) (size := 6) (src := (some ([], 7, 0))) (rows := []) (tx := .one (.c (.sl 6 ((p0.wait).map eLock)))) (new := ((p0.wait).map eLock).map (List.map frzC)) (rows' := (p0.wait).map eLock) (st1 := mk 12 [(2, .one (.pl [(2, 0)] 0 0)), (6, .one (.so [] 6 0 ((p0.held).length))), (10, .one (.so [] 10 0 ((p0.wait).length)))] [(2, [.bx [.sl 6 ([]), .sl 6 ([])]]), (6, [.sl 6 ((p0.held).map eLock)]), (10, [.sl 6 ((p0.wait).map eLock)])]) [2, 6, 10] tyOK (by as_aux_lemma => kernel_rfl) (appRows_fz (by simp [bC, eLock, eRange, eTx, frzC, iC, sC])) (by simp) (by simpa using c2) (by as_aux_lemma => kernel_rfl) (by simp [bC, eLock, eRange, eTx, frzC, iC, sC]) (by simp) (by as_aux_lemma => kernel_rfl) (by as_aux_lemma => kernel_rfl) (by as_aux_lemma => kernel_rfl) ?_
          refine aa_all [8] (by as_aux_lemma => kernel_rfl) rfl ?_
          refine aa_cons ?_ aa_nil
          refine aone_any (listed' := #[true, true, true, true, true, true, true, true, true, false]) (st1 := mk 12 [(2, .one (.pl [(2, 0)] 0 0)), (11, .agg [.so [] 6 0 ((p0.held).length), .so [] 10 0 ((p0.wait).length)])] [(2, [.bx [.sl 6 ([]), .sl 6 ([])]]), (6, [.sl 6 ((p0.held).map eLock)]), (10, [.sl 6 ((p0.wait).map eLock)])]) [2, 11] tyOK (by as_aux_lemma => kernel_rfl) (by as_aux_lemma => kernel_rfl) ?_
          refine aa_all [9] (by as_aux_lemma => kernel_rfl) rfl ?_
          refine aa_cons ?_ aa_nil
          refine aone_o (ob := [(((p0.held).map eLock).length, (p0.held).length), (((p0.wait).map eLock).length, (p0.wait).length)]) (listed' := #[true, true, true, true, true, true, true, true, true, true]) (st1 := mk 12 [(2, .one (.pl [(2, 0)] 0 0))] [(2, [.bx [.sl 6 ((p0.held).map eLock), .sl 6 ((p0.wait).map eLock)]])]) [2] tyOK (by as_aux_lemma => kernel_rfl) ⟨by simp, by simp, trivial⟩ (by as_aux_lemma => kernel_rfl) (by as_aux_lemma => kernel_rfl) ?_
          refine aa_done (by as_aux_lemma => kernel_rfl) ?_
          show _ = _; kernel_rfl
        refine aa_cons ?_ ?_
        · refine aone_any (listed' := #[true, true, true, false, true, true, false, false, false, false]) (st1 := mk 12 [(2, .one (.pl [(2, 0)] 0 0)), (3, .one (.so [] 3 0 0)), (5, .one (.c (.sl 6 ((p0.held).map eLock)))), (7, .one (.so [] 7 0 0)), (8, .one (.pl [(1, 0)] 0 1))] [(1, [.bx [.fz (.sl 6 ((p0.held).map eLock)), .fz (.sl 6 ((p0.wait).map eLock))]]), (2, [.bx [.sl 6 ([]), .sl 6 ([])]]), (3, [.sl 6 ([])]), (7, [.sl 6 ([])])]) [2, 3, 5, 7, 8] tyOK (by as_aux_lemma => kernel_rfl) (by as_aux_lemma => kernel_rfl) ?_
          refine aa_all [3, 6] (by as_aux_lemma => kernel_rfl) rfl ?_
          refine aa_cons ?_ ?_
          · refine aone_append (listed' := #[true, true, true, true, true, true, false, false, false, false]) (d := 6) (n := 0) (n' := ((p0.held).length)) (bytes := 64) (size := 6) (src := (some ([], 3, 0))) (rows := []) (tx := .one (.c (.sl 6 ((p0.held).map eLock)))) (new := ((p0.held).map eLock).map (List.map frzC)) (rows' := (p0.held).map eLock) (st1 := mk 12 [(2, .one (.pl [(2, 0)] 0 0)), (6, .one (.so [] 6 0 ((p0.held).length))), (7, .one (.so [] 7 0 0)), (8, .one (.pl [(1, 0)] 0 1))] [(1, [.bx [.fz (.sl 6 ((p0.held).map eLock)), .fz (.sl 6 ((p0.wait).map eLock))]]), (2, [.bx [.sl 6 ([]), .sl 6 ([])]]), (6, [.sl 6 ((p0.held).map eLock)]), (7, [.sl 6 ([])])]) [2, 6, 7, 8] tyOK (by as_aux_lemma => kernel_rfl) (appRows_fz (by simp [bC, eLock, eRange, eTx, frzC, iC, sC])) (by simp) (by simpa using c1) (by as_aux_lemma => kernel_rfl) (by simp [bC, eLock, eRange, eTx, frzC, iC, sC]) (by simp) (by as_aux_lemma => kernel_rfl) (by as_aux_lemma => kernel_rfl) (by as_aux_lemma => kernel_rfl) ?_
            refine aa_take (fuel := 3) (listed' := #[true, true, true, true, true, true, true, false, false, false]) (st' := mk 12 [(2, .one (.pl [(2, 0)] 0 0)), (6, .one (.so [] 6 0 ((p0.held).length))), (7, .one (.so [] 7 0 0)), (9, .one (.c (.sl 6 ((p0.wait).map eLock))))] [(2, [.bx [.sl 6 ([]), .sl 6 ([])]]), (6, [.sl 6 ((p0.held).map eLock)]), (7, [.sl 6 ([])])]) [6] [2, 6, 7, 9] tyOK (by as_aux_lemma => kernel_rfl) (by as_aux_lemma => kernel_rfl) (by as_aux_lemma => kernel_rfl) ?_
            refine aa_all [7] (by as_aux_lemma => kernel_rfl) rfl ?_
            refine aa_cons ?_ aa_nil
            refine aone_append (listed' := #[true, true, true, true, true, true, true, true, false, false]) (d := 10) (n := 0) (n' := ((p0.wait).length)) (bytes := 64) (size := 6) (src := (some ([], 7, 0))) (rows := []) (tx := .one (.c (.sl 6 ((p0.wait).map eLock)))) (new := ((p0.wait).map eLock).map (List.map frzC)) (rows' := (p0.wait).map eLock) (st1 := mk 12 [(2, .one (.pl [(2, 0)] 0 0)), (6, .one (.so [] 6 0 ((p0.held).length))), (10, .one (.so [] 10 0 ((p0.wait).length)))] [(2, [.bx [.sl 6 ([]), .sl 6 ([])]]), (6, [.sl 6 ((p0.held).map eLock)]), (10, [.sl 6 ((p0.wait).map eLock)])]) [2, 6, 10] tyOK (by as_aux_lemma => kernel_rfl) (appRows_fz (by simp [bC, eLock, eRange, eTx, frzC, iC, sC])) (by simp) (by simpa using c2) (by as_aux_lemma => kernel_rfl) (by simp [bC, eLock, eRange, eTx, frzC, iC, sC]) (by simp) (by as_aux_lemma => kernel_rfl) (by as_aux_lemma => kernel_rfl) (by as_aux_lemma => kernel_rfl) ?_
            refine aa_all [8] (by as_aux_lemma => kernel_rfl) rfl ?_
            refine aa_cons ?_ aa_nil
            refine aone_any (listed' := #[true, true, true, true, true, true, true, true, true, false]) (st1 := mk 12 [(2, .one (.pl [(2, 0)] 0 0)), (11, .agg [.so [] 6 0 ((p0.held).length), .so [] 10 0 ((p0.wait).length)])] [(2, [.bx [.sl 6 ([]), .sl 6 ([])]]), (6, [.sl 6 ((p0.held).map eLock)]), (10, [.sl 6 ((p0.wait).map eLock)])]) [2, 11] tyOK (by as_aux_lemma => kernel_rfl) (by as_aux_lemma => kernel_rfl) ?_
            refine aa_all [9] (by as_aux_lemma => kernel_rfl) rfl ?_
            refine aa_cons ?_ aa_nil
            refine aone_o (ob := [(((p0.held).map eLock).length, (p0.held).length), (((p0.wait).map eLock).length, (p0.wait).length)]) (listed' := #[true, true, true, true, true, true, true, true, true, true]) (st1 := mk 12 [(2, .one (.pl [(2, 0)] 0 0))] [(2, [.bx [.sl 6 ((p0.held).map eLock), .sl 6 ((p0.wait).map eLock)]])]) [2] tyOK (by as_aux_lemma => kernel_rfl) ⟨by simp, by simp, trivial⟩ (by as_aux_lemma => kernel_rfl) (by as_aux_lemma => kernel_rfl) ?_
            refine aa_done (by as_aux_lemma => kernel_rfl) ?_
            show _ = _; kernel_rfl
          refine aa_cons ?_ aa_nil
          refine aone_any (listed' := #[true, true, true, false, true, true, true, false, false, false]) (st1 := mk 12 [(2, .one (.pl [(2, 0)] 0 0)), (3, .one (.so [] 3 0 0)), (5, .one (.c (.sl 6 ((p0.held).map eLock)))), (7, .one (.so [] 7 0 0)), (9, .one (.c (.sl 6 ((p0.wait).map eLock))))] [(2, [.bx [.sl 6 ([]), .sl 6 ([])]]), (3, [.sl 6 ([])]), (7, [.sl 6 ([])])]) [2, 3, 5, 7, 9] tyOK (by as_aux_lemma => kernel_rfl) (by as_aux_lemma => kernel_rfl) ?_
          refine aa_all [3] (by as_aux_lemma => kernel_rfl) rfl ?_
          refine aa_cons ?_ aa_nil
          refine aone_append (listed' := #[true, true, true, true, true, true, true, false, false, false]) (d := 6) (n := 0) (n' := ((p0.held).length)) (bytes := 64) (size := 6) (src := (some ([], 3, 0))) (rows := []) (tx := .one (.c (.sl 6 ((p0.held).map eLock)))) (new := ((p0.held).map eLock).map (List.map frzC)) (rows' := (p0.held).map eLock) (st1 := mk 12 [(2, .one (.pl [(2, 0)] 0 0)), (6, .one (.so [] 6 0 ((p0.held).length))), (7, .one (.so [] 7 0 0)), (9, .one (.c (.sl 6 ((p0.wait).map eLock))))] [(2, [.bx [.sl 6 ([]), .sl 6 ([])]]), (6, [.sl 6 ((p0.held).map eLock)]), (7, [.sl 6 ([])])]) [2, 6, 7, 9] tyOK (by as_aux_lemma => kernel_rfl) (appRows_fz (by simp [bC, eLock, eRange, eTx, frzC, iC, sC])) (by simp) (by simpa using c1) (by as_aux_lemma => kernel_rfl) (by simp [bC, eLock, eRange, eTx, frzC, iC, sC]) (by simp) (by as_aux_lemma => kernel_rfl) (by as_aux_lemma => kernel_rfl) (by as_aux_lemma => kernel_rfl) ?_
          refine aa_all [7] (by as_aux_lemma => kernel_rfl) rfl ?_
          refine aa_cons ?_ aa_nil
          refine aone_append (listed' := #[true, true, true, true, true, true, true, true, false, false]) (d := 10) (n := 0) (n' := ((p0.wait).length)) (bytes := 64) (size := 6) (src := (some ([], 7, 0))) (rows := []) (tx := .one (.c (.sl 6 ((p0.wait).map eLock)))) (new := ((p0.wait).map eLock).map (List.map frzC)) (rows' := (p0.wait).map eLock) (st1 := mk 12 [(2, .one (.pl [(2, 0)] 0 0)), (6, .one (.so [] 6 0 ((p0.held).length))), (10, .one (.so [] 10 0 ((p0.wait).length)))] [(2, [.bx [.sl 6 ([]), .sl 6 ([])]]), (6, [.sl 6 ((p0.held).map eLock)]), (10, [.sl 6 ((p0.wait).map eLock)])]) [2, 6, 10] tyOK (by as_aux_lemma => kernel_rfl) (appRows_fz (by simp [bC, eLock, eRange, eTx, frzC, iC, sC])) (by simp) (by simpa using c2) (by as_aux_lemma => kernel_rfl) (by simp [bC, eLock, eRange, eTx, frzC, iC, sC]) (by simp) (by as_aux_lemma => kernel_rfl) (by as_aux_lemma => kernel_rfl) (by as_aux_lemma => kernel_rfl) ?_
          refine aa_all [8] (by as_aux_lemma => kernel_rfl) rfl ?_
          refine aa_cons ?_ aa_nil
          refine aone_any (listed' := #[true, true, true, true, true, true, true, true, true, false]) (st1 := mk 12 [(2, .one (.pl [(2, 0)] 0 0)), (11, .agg [.so [] 6 0 ((p0.held).length), .so [] 10 0 ((p0.wait).length)])] [(2, [.bx [.sl 6 ([]), .sl 6 ([])]]), (6, [.sl 6 ((p0.held).map eLock)]), (10, [.sl 6 ((p0.wait).map eLock)])]) [2, 11] tyOK (by as_aux_lemma => kernel_rfl) (by as_aux_lemma => kernel_rfl) ?_
          refine aa_all [9] (by as_aux_lemma => kernel_rfl) rfl ?_
          refine aa_cons ?_ aa_nil
          refine aone_o (ob := [(((p0.held).map eLock).length, (p0.held).length), (((p0.wait).map eLock).length, (p0.wait).length)]) (listed' := #[true, true, true, true, true, true, true, true, true, true]) (st1 := mk 12 [(2, .one (.pl [(2, 0)] 0 0))] [(2, [.bx [.sl 6 ((p0.held).map eLock), .sl 6 ((p0.wait).map eLock)]])]) [2] tyOK (by as_aux_lemma => kernel_rfl) ⟨by simp, by simp, trivial⟩ (by as_aux_lemma => kernel_rfl) (by as_aux_lemma => kernel_rfl) ?_
          refine aa_done (by as_aux_lemma => kernel_rfl) ?_
          show _ = _; kernel_rfl
        refine aa_cons ?_ aa_nil
        refine aone_any (listed' := #[true, true, true, false, false, true, true, false, false, false]) (st1 := mk 12 [(2, .one (.pl [(2, 0)] 0 0)), (3, .one (.so [] 3 0 0)), (5, .one (.c (.sl 6 ((p0.held).map eLock)))), (9, .one (.c (.sl 6 ((p0.wait).map eLock))))] [(2, [.bx [.sl 6 ([]), .sl 6 ([])]]), (3, [.sl 6 ([])])]) [2, 3, 5, 9] tyOK (by as_aux_lemma => kernel_rfl) (by as_aux_lemma => kernel_rfl) ?_
        refine aa_all [3, 4] (by as_aux_lemma => kernel_rfl) rfl ?_
        refine aa_cons ?_ ?_
        · refine aone_append (listed' := #[true, true, true, true, false, true, true, false, false, false]) (d := 6) (n := 0) (n' := ((p0.held).length)) (bytes := 64) (size := 6) (src := (some ([], 3, 0))) (rows := []) (tx := .one (.c (.sl 6 ((p0.held).map eLock)))) (new := ((p0.held).map eLock).map (List.map frzC)) (rows' := (p0.held).map eLock) (st1 := mk 12 [(2, .one (.pl [(2, 0)] 0 0)), (6, .one (.so [] 6 0 ((p0.held).length))), (9, .one (.c (.sl 6 ((p0.wait).map eLock))))] [(2, [.bx [.sl 6 ([]), .sl 6 ([])]]), (6, [.sl 6 ((p0.held).map eLock)])]) [2, 6, 9] tyOK (by as_aux_lemma => kernel_rfl) (appRows_fz (by simp [bC, eLock, eRange, eTx, frzC, iC, sC])) (by simp) (by simpa using c1) (by as_aux_lemma => kernel_rfl) (by simp [bC, eLock, eRange, eTx, frzC, iC, sC]) (by simp) (by as_aux_lemma => kernel_rfl) (by as_aux_lemma => kernel_rfl) (by as_aux_lemma => kernel_rfl) ?_
          refine aa_all [4] (by as_aux_lemma => kernel_rfl) rfl ?_
          refine aa_cons ?_ aa_nil
          refine aone_any (listed' := #[true, true, true, true, true, true, true, false, false, false]) (st1 := mk 12 [(2, .one (.pl [(2, 0)] 0 0)), (6, .one (.so [] 6 0 ((p0.held).length))), (7, .one (.so [] 7 0 0)), (9, .one (.c (.sl 6 ((p0.wait).map eLock))))] [(2, [.bx [.sl 6 ([]), .sl 6 ([])]]), (6, [.sl 6 ((p0.held).map eLock)]), (7, [.sl 6 ([])])]) [2, 6, 7, 9] tyOK (by as_aux_lemma => kernel_rfl) (by as_aux_lemma => kernel_rfl) ?_
          refine aa_all [7] (by as_aux_lemma => kernel_rfl) rfl ?_
          refine aa_cons ?_ aa_nil
          refine aone_append (listed' := #[true, true, true, true, true, true, true, true, false, false]) (d := 10) (n := 0) (n' := ((p0.wait).length)) (bytes := 64) (size := 6) (src := (some ([], 7, 0))) (rows := []) (tx := .one (.c (.sl 6 ((p0.wait).map eLock)))) (new := ((p0.wait).map eLock).map (List.map frzC)) (rows' := (p0.wait).map eLock) (st1 := mk 12 [(2, .one (.pl [(2, 0)] 0 0)), (6, .one (.so [] 6 0 ((p0.held).length))), (10, .one (.so [] 10 0 ((p0.wait).length)))] [(2, [.bx [.sl 6 ([]), .sl 6 ([])]]), (6, [.sl 6 ((p0.held).map eLock)]), (10, [.sl 6 ((p0.wait).map eLock)])]) [2, 6, 10] tyOK (by as_aux_lemma => kernel_rfl) (appRows_fz (by simp [bC, eLock, eRange, eTx, frzC, iC, sC])) (by simp) (by simpa using c2) (by as_aux_lemma => kernel_rfl) (by simp [bC, eLock, eRange, eTx, frzC, iC, sC]) (by simp) (by as_aux_lemma => kernel_rfl) (by as_aux_lemma => kernel_rfl) (by as_aux_lemma => kernel_rfl) ?_
          refine aa_all [8] (by as_aux_lemma => kernel_rfl) rfl ?_
          refine aa_cons ?_ aa_nil
          refine aone_any (listed' := #[true, true, true, true, true, true, true, true, true, false]) (st1 := mk 12 [(2, .one (.pl [(2, 0)] 0 0)), (11, .agg [.so [] 6 0 ((p0.held).length), .so [] 10 0 ((p0.wait).length)])] [(2, [.bx [.sl 6 ([]), .sl 6 ([])]]), (6, [.sl 6 ((p0.held).map eLock)]), (10, [.sl 6 ((p0.wait).map eLock)])]) [2, 11] tyOK (by as_aux_lemma => kernel_rfl) (by as_aux_lemma => kernel_rfl) ?_
          refine aa_all [9] (by as_aux_lemma => kernel_rfl) rfl ?_
          refine aa_cons ?_ aa_nil
          refine aone_o (ob := [(((p0.held).map eLock).length, (p0.held).length), (((p0.wait).map eLock).length, (p0.wait).length)]) (listed' := #[true, true, true, true, true, true, true, true, true, true]) (st1 := mk 12 [(2, .one (.pl [(2, 0)] 0 0))] [(2, [.bx [.sl 6 ((p0.held).map eLock), .sl 6 ((p0.wait).map eLock)]])]) [2] tyOK (by as_aux_lemma => kernel_rfl) ⟨by simp, by simp, trivial⟩ (by as_aux_lemma => kernel_rfl) (by as_aux_lemma => kernel_rfl) ?_
          refine aa_done (by as_aux_lemma => kernel_rfl) ?_
          show _ = _; kernel_rfl
        refine aa_cons ?_ aa_nil
        refine aone_any (listed' := #[true, true, true, false, true, true, true, false, false, false]) (st1 := mk 12 [(2, .one (.pl [(2, 0)] 0 0)), (3, .one (.so [] 3 0 0)), (5, .one (.c (.sl 6 ((p0.held).map eLock)))), (7, .one (.so [] 7 0 0)), (9, .one (.c (.sl 6 ((p0.wait).map eLock))))] [(2, [.bx [.sl 6 ([]), .sl 6 ([])]]), (3, [.sl 6 ([])]), (7, [.sl 6 ([])])]) [2, 3, 5, 7, 9] tyOK (by as_aux_lemma => kernel_rfl) (by as_aux_lemma => kernel_rfl) ?_
        refine aa_all [3] (by as_aux_lemma => kernel_rfl) rfl ?_
        refine aa_cons ?_ aa_nil
        refine aone_append (listed' := #[true, true, true, true, true, true, true, false, false, false]) (d := 6) (n := 0) (n' := ((p0.held).length)) (bytes := 64) (size := 6) (src := (some ([], 3, 0))) (rows := []) (tx := .one (.c (.sl 6 ((p0.held).map eLock)))) (new := ((p0.held).map eLock).map (List.map frzC)) (rows' := (p0.held).map eLock) (st1 := mk 12 [(2, .one (.pl [(2, 0)] 0 0)), (6, .one (.so [] 6 0 ((p0.held).length))), (7, .one (.so [] 7 0 0)), (9, .one (.c (.sl 6 ((p0.wait).map eLock))))] [(2, [.bx [.sl 6 ([]), .sl 6 ([])]]), (6, [.sl 6 ((p0.held).map eLock)]), (7, [.sl 6 ([])])]) [2, 6, 7, 9] tyOK (by as_aux_lemma => kernel_rfl) (appRows_fz (by simp [bC, eLock, eRange, eTx, frzC, iC, sC])) (by simp) (by simpa using c1) (by as_aux_lemma => kernel_rfl) (by simp [bC, eLock, eRange, eTx, frzC, iC, sC]) (by simp) (by as_aux_lemma => kernel_rfl) (by as_aux_lemma => kernel_rfl) (by as_aux_lemma => kernel_rfl) ?_
        refine aa_all [7] (by as_aux_lemma => kernel_rfl) rfl ?_
        refine aa_cons ?_ aa_nil
        refine aone_append (listed' := #[true, true, true, true, true, true, true, true, false, false]) (d := 10) (n := 0) (n' := ((p0.wait).length)) (bytes := 64) (size := 6) (src := (some ([], 7, 0))) (rows := []) (tx := .one (.c (.sl 6 ((p0.wait).map eLock)))) (new := ((p0.wait).map eLock).map (List.map frzC)) (rows' := (p0.wait).map eLock) (st1 := mk 12 [(2, .one (.pl [(2, 0)] 0 0)), (6, .one (.so [] 6 0 ((p0.held).length))), (10, .one (.so [] 10 0 ((p0.wait).length)))] [(2, [.bx [.sl 6 ([]), .sl 6 ([])]]), (6, [.sl 6 ((p0.held).map eLock)]), (10, [.sl 6 ((p0.wait).map eLock)])]) [2, 6, 10] tyOK (by as_aux_lemma => kernel_rfl) (appRows_fz (by simp [bC, eLock, eRange, eTx, frzC, iC, sC])) (by simp) (by simpa using c2) (by as_aux_lemma => kernel_rfl) (by simp [bC, eLock, eRange, eTx, frzC, iC, sC]) (by simp) (by as_aux_lemma => kernel_rfl) (by as_aux_lemma => kernel_rfl) (by as_aux_lemma => kernel_rfl) ?_
        refine aa_all [8] (by as_aux_lemma => kernel_rfl) rfl ?_
        refine aa_cons ?_ aa_nil
        refine aone_any (listed' := #[true, true, true, true, true, true, true, true, true, false]) (st1 := mk 12 [(2, .one (.pl [(2, 0)] 0 0)), (11, .agg [.so [] 6 0 ((p0.held).length), .so [] 10 0 ((p0.wait).length)])] [(2, [.bx [.sl 6 ([]), .sl 6 ([])]]), (6, [.sl 6 ((p0.held).map eLock)]), (10, [.sl 6 ((p0.wait).map eLock)])]) [2, 11] tyOK (by as_aux_lemma => kernel_rfl) (by as_aux_lemma => kernel_rfl) ?_
        refine aa_all [9] (by as_aux_lemma => kernel_rfl) rfl ?_
        refine aa_cons ?_ aa_nil
        refine aone_o (ob := [(((p0.held).map eLock).length, (p0.held).length), (((p0.wait).map eLock).length, (p0.wait).length)]) (listed' := #[true, true, true, true, true, true, true, true, true, true]) (st1 := mk 12 [(2, .one (.pl [(2, 0)] 0 0))] [(2, [.bx [.sl 6 ((p0.held).map eLock), .sl 6 ((p0.wait).map eLock)]])]) [2] tyOK (by as_aux_lemma => kernel_rfl) ⟨by simp, by simp, trivial⟩ (by as_aux_lemma => kernel_rfl) (by as_aux_lemma => kernel_rfl) ?_
        refine aa_done (by as_aux_lemma => kernel_rfl) ?_
        show _ = _; kernel_rfl
      refine aa_cons ?_ ?_
      · refine aone_any (listed' := #[false, true, true, false, true, true, false, false, false, false]) (st1 := mk 12 [(2, .one (.pl [(2, 0)] 0 0)), (5, .one (.c (.sl 6 ((p0.held).map eLock)))), (7, .one (.so [] 7 0 0)), (8, .one (.pl [(1, 0)] 0 1))] [(1, [.bx [.fz (.sl 6 ((p0.held).map eLock)), .fz (.sl 6 ((p0.wait).map eLock))]]), (2, [.bx [.sl 6 ([]), .sl 6 ([])]]), (7, [.sl 6 ([])])]) [2, 5, 7, 8] tyOK (by as_aux_lemma => kernel_rfl) (by as_aux_lemma => kernel_rfl) ?_
        refine aa_all [0, 6] (by as_aux_lemma => kernel_rfl) rfl ?_
        refine aa_cons ?_ ?_
        · refine aone_any (listed' := #[true, true, true, false, true, true, false, false, false, false]) (st1 := mk 12 [(2, .one (.pl [(2, 0)] 0 0)), (3, .one (.so [] 3 0 0)), (5, .one (.c (.sl 6 ((p0.held).map eLock)))), (7, .one (.so [] 7 0 0)), (8, .one (.pl [(1, 0)] 0 1))] [(1, [.bx [.fz (.sl 6 ((p0.held).map eLock)), .fz (.sl 6 ((p0.wait).map eLock))]]), (2, [.bx [.sl 6 ([]), .sl 6 ([])]]), (3, [.sl 6 ([])]), (7, [.sl 6 ([])])]) [2, 3, 5, 7, 8] tyOK (by as_aux_lemma => kernel_rfl) (by as_aux_lemma => kernel_rfl) ?_
          refine aa_all [3, 6] (by as_aux_lemma => kernel_rfl) rfl ?_
          refine aa_cons ?_ ?_
          · refine aone_append (listed' := #[true, true, true, true, true, true, false, false, false, false]) (d := 6) (n := 0) (n' := ((p0.held).length)) (bytes := 64) (size := 6) (src := (some ([], 3, 0))) (rows := []) (tx := .one (.c (.sl 6 ((p0.held).map eLock)))) (new := ((p0.held).map eLock).map (List.map frzC)) (rows' := (p0.held).map eLock) (st1 := mk 12 [(2, .one (.pl [(2, 0)] 0 0)), (6, .one (.so [] 6 0 ((p0.held).length))), (7, .one (.so [] 7 0 0)), (8, .one (.pl [(1, 0)] 0 1))] [(1, [.bx [.fz (.sl 6 ((p0.held).map eLock)), .fz (.sl 6 ((p0.wait).map eLock))]]), (2, [.bx [.sl 6 ([]), .sl 6 ([])]]), (6, [.sl 6 ((p0.held).map eLock)]), (7, [.sl 6 ([])])]) [2, 6, 7, 8] tyOK (by as_aux_lemma => kernel_rfl) (appRows_fz (by simp [bC, eLock, eRange, eTx, frzC, iC, sC])) (by simp) (by simpa using c1) (by as_aux_lemma => kernel_rfl) (by simp [bC, eLock, eRange, eTx, frzC, iC, sC]) (by simp) (by as_aux_lemma => kernel_rfl) (by as_aux_lemma => kernel_rfl) (by as_aux_lemma => kernel_rfl) ?_
            refine aa_take (fuel := 3) (listed' := #[true, true, true, true, true, true, true, false, false, false]) (st' := mk 12 [(2, .one (.pl [(2, 0)] 0 0)), (6, .one (.so [] 6 0 ((p0.held).length))), (7, .one (.so [] 7 0 0)), (9, .one (.c (.sl 6 ((p0.wait).map eLock))))] [(2, [.bx [.sl 6 ([]), .sl 6 ([])]]), (6, [.sl 6 ((p0.held).map eLock)]), (7, [.sl 6 ([])])]) [6] [2, 6, 7, 9] tyOK (by as_aux_lemma => kernel_rfl) (by as_aux_lemma => kernel_rfl) (by as_aux_lemma => kernel_rfl) ?_
            refine aa_all [7] (by as_aux_lemma => kernel_rfl) rfl ?_
            refine aa_cons ?_ aa_nil
            refine aone_append (listed' := #[true, true, true, true, true, true, true, true, false, false]) (d := 10) (n := 0) (n' := ((p0.wait).length)) (bytes := 64) (size := 6) (src := (some ([], 7, 0))) (rows := []) (tx := .one (.c (.sl 6 ((p0.wait).map eLock)))) (new := ((p0.wait).map eLock).map (List.map frzC)) (rows' := (p0.wait).map eLock) (st1 := mk 12 [(2, .one (.pl [(2, 0)] 0 0)), (6, .one (.so [] 6 0 ((p0.held).length))), (10, .one (.so [] 10 0 ((p0.wait).length)))] [(2, [.bx [.sl 6 ([]), .sl 6 ([])]]), (6, [.sl 6 ((p0.held).map eLock)]), (10, [.sl 6 ((p0.wait).map eLock)])]) [2, 6, 10] tyOK (by as_aux_lemma => kernel_rfl) (appRows_fz (by simp [bC, eLock, eRange, eTx, frzC, iC, sC])) (by simp) (by simpa using c2) (by as_aux_lemma => kernel_rfl) (by simp [bC, eLock, eRange, eTx, frzC, iC, sC]) (by simp) (by as_aux_lemma => kernel_rfl) (by as_aux_lemma => kernel_rfl) (by as_aux_lemma => kernel_rfl) ?_
            refine aa_all [8] (by as_aux_lemma => kernel_rfl) rfl ?_
            refine aa_cons ?_ aa_nil
            refine aone_any (listed' := #[true, true, true, true, true, true, true, true, true, false]) (st1 := mk 12 [(2, .one (.pl [(2, 0)] 0 0)), (11, .agg [.so [] 6 0 ((p0.held).length), .so [] 10 0 ((p0.wait).length)])] [(2, [.bx [.sl 6 ([]), .sl 6 ([])]]), (6, [.sl 6 ((p0.held).map eLock)]), (10, [.sl 6 ((p0.wait).map eLock)])]) [2, 11] tyOK (by as_aux_lemma => kernel_rfl) (by as_aux_lemma => kernel_rfl) ?_
            refine aa_all [9] (by as_aux_lemma => kernel_rfl) rfl ?_
            refine aa_cons ?_ aa_nil
            refine aone_o (ob := [(((p0.held).map eLock).length, (p0.held).length), (((p0.wait).map eLock).length, (p0.wait).length)]) (listed' := #[true, true, true, true, true, true, true, true, true, true]) (st1 := mk 12 [(2, .one (.pl [(2, 0)] 0 0))] [(2, [.bx [.sl 6 ((p0.held).map eLock), .sl 6 ((p0.wait).map eLock)]])]) [2] tyOK (by as_aux_lemma => kernel_rfl) ⟨by simp, by simp, trivial⟩ (by as_aux_lemma => kernel_rfl) (by as_aux_lemma => kernel_rfl) ?_
            refine aa_done (by as_aux_lemma => kernel_rfl) ?_
            show _ = _; kernel_rfl
          refine aa_cons ?_ aa_nil
          refine aone_any (listed' := #[true, true, true, false, true, true, true, false, false, false]) (st1 := mk 12 [(2, .one (.pl [(2, 0)] 0 0)), (3, .one (.so [] 3 0 0)), (5, .one (.c (.sl 6 ((p0.held).map eLock)))), (7, .one (.so [] 7 0 0)), (9, .one (.c (.sl 6 ((p0.wait).map eLock))))] [(2, [.bx [.sl 6 ([]), .sl 6 ([])]]), (3, [.sl 6 ([])]), (7, [.sl 6 ([])])]) [2, 3, 5, 7, 9] tyOK (by as_aux_lemma => kernel_rfl) (by as_aux_lemma => kernel_rfl) ?_
          refine aa_all [3] (by as_aux_lemma => kernel_rfl) rfl ?_
          refine aa_cons ?_ aa_nil
          refine aone_append (listed' := #[true, true, true, true, true, true, true, false, false, false]) (d := 6) (n := 0) (n' := ((p0.held).length)) (bytes := 64) (size := 6) (src := (some ([], 3, 0))) (rows := []) (tx := .one (.c (.sl 6 ((p0.held).map eLock)))) (new := ((p0.held).map eLock).map (List.map frzC)) (rows' := (p0.held).map eLock) (st1 := mk 12 [(2, .one (.pl [(2, 0)] 0 0)), (6, .one (.so [] 6 0 ((p0.held).length))), (7, .one (.so [] 7 0 0)), (9, .one (.c (.sl 6 ((p0.wait).map eLock))))] [(2, [.bx [.sl 6 ([]), .sl 6 ([])]]), (6, [.sl 6 ((p0.held).map eLock)]), (7, [.sl 6 ([])])]) [2, 6, 7, 9] tyOK (by as_aux_lemma => kernel_rfl) (appRows_fz (by simp [bC, eLock, eRange, eTx, frzC, iC, sC])) (by simp) (by simpa using c1) (by as_aux_lemma => kernel_rfl) (by simp [bC, eLock, eRange, eTx, frzC, iC, sC]) (by simp) (by as_aux_lemma => kernel_rfl) (by as_aux_lemma => kernel_rfl) (by as_aux_lemma => kernel_rfl) ?_
          refine aa_all [7] (by as_aux_lemma => kernel_rfl) rfl ?_
          refine aa_cons ?_ aa_nil
          refine aone_append (listed' := #[true, true, true, true, true, true, true, true, false, false]) (d := 10) (n := 0) (n' := ((p0.wait).length)) (bytes := 64) (size := 6) (src := (some ([], 7, 0))) (rows := []) (tx := .one (.c (.sl 6 ((p0.wait).map eLock)))) (new := ((p0.wait).map eLock).map (List.map frzC)) (rows' := (p0.wait).map eLock) (st1 := mk 12 [(2, .one (.pl [(2, 0)] 0 0)), (6, .one (.so [] 6 0 ((p0.held).length))), (10, .one (.so [] 10 0 ((p0.wait).length)))] [(2, [.bx [.sl 6 ([]), .sl 6 ([])]]), (6, [.sl 6 ((p0.held).map eLock)]), (10, [.sl 6 ((p0.wait).map eLock)])]) [2, 6, 10] tyOK (by as_aux_lemma => kernel_rfl) (appRows_fz (by simp [bC, eLock, eRange, eTx, frzC, iC, sC])) (by simp) (by simpa using c2) (by as_aux_lemma => kernel_rfl) (by simp [bC, eLock, eRange, eTx, frzC, iC, sC]) (by simp) (by as_aux_lemma => kernel_rfl) (by as_aux_lemma => kernel_rfl) (by as_aux_lemma => kernel_rfl) ?_
          refine aa_all [8] (by as_aux_lemma => kernel_rfl) rfl ?_
          refine aa_cons ?_ aa_nil
          refine aone_any (listed' := #[true, true, true, true, true, true, true, true, true, false]) (st1 := mk 12 [(2, .one (.pl [(2, 0)] 0 0)), (11, .agg [.so [] 6 0 ((p0.held).length), .so [] 10 0 ((p0.wait).length)])] [(2, [.bx [.sl 6 ([]), .sl 6 ([])]]), (6, [.sl 6 ((p0.held).map eLock)]), (10, [.sl 6 ((p0.wait).map eLock)])]) [2, 11] tyOK (by as_aux_lemma => kernel_rfl) (by as_aux_lemma => kernel_rfl) ?_
          refine aa_all [9] (by as_aux_lemma => kernel_rfl) rfl ?_
          refine aa_cons ?_ aa_nil
          refine aone_o (ob := [(((p0.held).map eLock).length, (p0.held).length), (((p0.wait).map eLock).length, (p0.wait).length)]) (listed' := #[true, true, true, true, true, true, true, true, true, true]) (st1 := mk 12 [(2, .one (.pl [(2, 0)] 0 0))] [(2, [.bx [.sl 6 ((p0.held).map eLock), .sl 6 ((p0.wait).map eLock)]])]) [2] tyOK (by as_aux_lemma => kernel_rfl) ⟨by simp, by simp, trivial⟩ (by as_aux_lemma => kernel_rfl) (by as_aux_lemma => kernel_rfl) ?_
          refine aa_done (by as_aux_lemma => kernel_rfl) ?_
          show _ = _; kernel_rfl
        refine aa_cons ?_ aa_nil
        refine aone_any (listed' := #[false, true, true, false, true, true, true, false, false, false]) (st1 := mk 12 [(2, .one (.pl [(2, 0)] 0 0)), (5, .one (.c (.sl 6 ((p0.held).map eLock)))), (7, .one (.so [] 7 0 0)), (9, .one (.c (.sl 6 ((p0.wait).map eLock))))] [(2, [.bx [.sl 6 ([]), .sl 6 ([])]]), (7, [.sl 6 ([])])]) [2, 5, 7, 9] tyOK (by as_aux_lemma => kernel_rfl) (by as_aux_lemma => kernel_rfl) ?_
        refine aa_all [0] (by as_aux_lemma => kernel_rfl) rfl ?_
        refine aa_cons ?_ aa_nil
        refine aone_any (listed' := #[true, true, true, false, true, true, true, false, false, false]) (st1 := mk 12 [(2, .one (.pl [(2, 0)] 0 0)), (3, .one (.so [] 3 0 0)), (5, .one (.c (.sl 6 ((p0.held).map eLock)))), (7, .one (.so [] 7 0 0)), (9, .one (.c (.sl 6 ((p0.wait).map eLock))))] [(2, [.bx [.sl 6 ([]), .sl 6 ([])]]), (3, [.sl 6 ([])]), (7, [.sl 6 ([])])]) [2, 3, 5, 7, 9] tyOK (by as_aux_lemma => kernel_rfl) (by as_aux_lemma => kernel_rfl) ?_
        refine aa_all [3] (by as_aux_lemma => kernel_rfl) rfl ?_
        refine aa_cons ?_ aa_nil
        refine aone_append (listed' := #[true, true, true, true, true, true, true, false, false, false]) (d := 6) (n := 0) (n' := ((p0.held).length)) (bytes := 64) (size := 6) (src := (some ([], 3, 0))) (rows := []) (tx := .one (.c (.sl 6 ((p0.held).map eLock)))) (new := ((p0.held).map eLock).map (List.map frzC)) (rows' := (p0.held).map eLock) (st1 := mk 12 [(2, .one (.pl [(2, 0)] 0 0)), (6, .one (.so [] 6 0 ((p0.held).length))), (7, .one (.so [] 7 0 0)), (9, .one (.c (.sl 6 ((p0.wait).map eLock))))] [(2, [.bx [.sl 6 ([]), .sl 6 ([])]]), (6, [.sl 6 ((p0.held).map eLock)]), (7, [.sl 6 ([])])]) [2, 6, 7, 9] tyOK (by as_aux_lemma => kernel_rfl) (appRows_fz (by simp [bC, eLock, eRange, eTx, frzC, iC, sC])) (by simp) (by simpa using c1) (by as_aux_lemma => kernel_rfl) (by simp [bC, eLock, eRange, eTx, frzC, iC, sC]) (by simp) (by as_aux_lemma => kernel_rfl) (by as_aux_lemma => kernel_rfl) (by as_aux_lemma => kernel_rfl) ?_
        refine aa_all [7] (by as_aux_lemma => kernel_rfl) rfl ?_
        refine aa_cons ?_ aa_nil
        refine aone_append (listed' := #[true, true, true, true, true, true, true, true, false, false]) (d := 10) (n := 0) (n' := ((p0.wait).length)) (bytes := 64) (size := 6) (src := (some ([], 7, 0))) (rows := []) (tx := .one (.c (.sl 6 ((p0.wait).map eLock)))) (new := ((p0.wait).map eLock).map (List.map frzC)) (rows' := (p0.wait).map eLock) (st1 := mk 12 [(2, .one (.pl [(2, 0)] 0 0)), (6, .one (.so [] 6 0 ((p0.held).length))), (10, .one (.so [] 10 0 ((p0.wait).length)))] [(2, [.bx [.sl 6 ([]), .sl 6 ([])]]), (6, [.sl 6 ((p0.held).map eLock)]), (10, [.sl 6 ((p0.wait).map eLock)])]) [2, 6, 10] tyOK (by as_aux_lemma => kernel_rfl) (appRows_fz (by simp [bC, eLock, eRange, eTx, frzC, iC, sC])) (by simp) (by simpa using c2) (by as_aux_lemma => kernel_rfl) (by simp [bC, eLock, eRange, eTx, frzC, iC, sC]) (by simp) (by as_aux_lemma => kernel_rfl) (by as_aux_lemma => kernel_rfl) (by as_aux_lemma => kernel_rfl) ?_
        refine aa_all [8] (by as_aux_lemma => kernel_rfl) rfl ?_
        refine aa_cons ?_ aa_nil
        refine aone_any (listed' := #[true, true, true, true, true, true, true, true, true, false]) (st1 := mk 12 [(2, .one (.pl [(2, 0)] 0 0)), (11, .agg [.so [] 6 0 ((p0.held).length), .so [] 10 0 ((p0.wait).length)])] [(2, [.bx [.sl 6 ([]), .sl 6 ([])]]), (6, [.sl 6 ((p0.held).map eLock)]), (10, [.sl 6 ((p0.wait).map eLock)])]) [2, 11] tyOK (by as_aux_lemma => kernel_rfl) (by as_aux_lemma => kernel_rfl) ?_
        refine aa_all [9] (by as_aux_lemma => kernel_rfl) rfl ?_
        refine aa_cons ?_ aa_nil
        refine aone_o (ob := [(((p0.held).map eLock).length, (p0.held).length), (((p0.wait).map eLock).length, (p0.wait).length)]) (listed' := #[true, true, true, true, true, true, true, true, true, true]) (st1 := mk 12 [(2, .one (.pl [(2, 0)] 0 0))] [(2, [.bx [.sl 6 ((p0.held).map eLock), .sl 6 ((p0.wait).map eLock)]])]) [2] tyOK (by as_aux_lemma => kernel_rfl) ⟨by simp, by simp, trivial⟩ (by as_aux_lemma => kernel_rfl) (by as_aux_lemma => kernel_rfl) ?_
        refine aa_done (by as_aux_lemma => kernel_rfl) ?_
        show _ = _; kernel_rfl
      refine aa_cons ?_ aa_nil
      refine aone_any (listed' := #[false, true, true, false, false, true, true, false, false, false]) (st1 := mk 12 [(2, .one (.pl [(2, 0)] 0 0)), (5, .one (.c (.sl 6 ((p0.held).map eLock)))), (9, .one (.c (.sl 6 ((p0.wait).map eLock))))] [(2, [.bx [.sl 6 ([]), .sl 6 ([])]])]) [2, 5, 9] tyOK (by as_aux_lemma => kernel_rfl) (by as_aux_lemma => kernel_rfl) ?_
      refine aa_all [0, 4] (by as_aux_lemma => kernel_rfl) rfl ?_
      refine aa_cons ?_ ?_
      · refine aone_any (listed' := #[true, true, true, false, false, true, true, false, false, false]) (st1 := mk 12 [(2, .one (.pl [(2, 0)] 0 0)), (3, .one (.so [] 3 0 0)), (5, .one (.c (.sl 6 ((p0.held).map eLock)))), (9, .one (.c (.sl 6 ((p0.wait).map eLock))))] [(2, [.bx [.sl 6 ([]), .sl 6 ([])]]), (3, [.sl 6 ([])])]) [2, 3, 5, 9] tyOK (by as_aux_lemma => kernel_rfl) (by as_aux_lemma => kernel_rfl) ?_
        refine aa_all [3, 4] (by as_aux_lemma => kernel_rfl) rfl ?_
        refine aa_cons ?_ ?_
        · refine aone_append (listed' := #[true, true, true, true, false, true, true, false, false, false]) (d := 6) (n := 0) (n' := ((p0.held).length)) (bytes := 64) (size := 6) (src := (some ([], 3, 0))) (rows := []) (tx := .one (.c (.sl 6 ((p0.held).map eLock)))) (new := ((p0.held).map eLock).map (List.map frzC)) (rows' := (p0.held).map eLock) (st1 := mk 12 [(2, .one (.pl [(2, 0)] 0 0)), (6, .one (.so [] 6 0 ((p0.held).length))), (9, .one (.c (.sl 6 ((p0.wait).map eLock))))] [(2, [.bx [.sl 6 ([]), .sl 6 ([])]]), (6, [.sl 6 ((p0.held).map eLock)])]) [2, 6, 9] tyOK (by as_aux_lemma => kernel_rfl) (appRows_fz (by simp [bC, eLock, eRange, eTx, frzC, iC, sC])) (by simp) (by simpa using c1) (by as_aux_lemma => kernel_rfl) (by simp [bC, eLock, eRange, eTx, frzC, iC, sC]) (by simp) (by as_aux_lemma => kernel_rfl) (by as_aux_lemma => kernel_rfl) (by as_aux_lemma => kernel_rfl) ?_
          refine aa_all [4] (by as_aux_lemma => kernel_rfl) rfl ?_
          refine aa_cons ?_ aa_nil
          refine aone_any (listed' := #[true, true, true, true, true, true, true, false, false, false]) (st1 := mk 12 [(2, .one (.pl [(2, 0)] 0 0)), (6, .one (.so [] 6 0 ((p0.held).length))), (7, .one (.so [] 7 0 0)), (9, .one (.c (.sl 6 ((p0.wait).map eLock))))] [(2, [.bx [.sl 6 ([]), .sl 6 ([])]]), (6, [.sl 6 ((p0.held).map eLock)]), (7, [.sl 6 ([])])]) [2, 6, 7, 9] tyOK (by as_aux_lemma => kernel_rfl) (by as_aux_lemma => kernel_rfl) ?_
          refine aa_all [7] (by as_aux_lemma => kernel_rfl) rfl ?_
          refine aa_cons ?_ aa_nil
          refine aone_append (listed' := #[true, true, true, true, true, true, true, true, false, false]) (d := 10) (n := 0) (n' := ((p0.wait).length)) (bytes := 64) (size := 6) (src := (some ([], 7, 0))) (rows := []) (tx := .one (.c (.sl 6 ((p0.wait).map eLock)))) (new := ((p0.wait).map eLock).map (List.map frzC)) (rows' := (p0.wait).map eLock) (st1 := mk 12 [(2, .one (.pl [(2, 0)] 0 0)), (6, .one (.so [] 6 0 ((p0.held).length))), (10, .one (.so [] 10 0 ((p0.wait).length)))] [(2, [.bx [.sl 6 ([]), .sl 6 ([])]]), (6, [.sl 6 ((p0.held).map eLock)]), (10, [.sl 6 ((p0.wait).map eLock)])]) [2, 6, 10] tyOK (by as_aux_lemma => kernel_rfl) (appRows_fz (by simp [bC, eLock, eRange, eTx, frzC, iC, sC])) (by simp) (by simpa using c2) (by as_aux_lemma => kernel_rfl) (by simp [bC, eLock, eRange, eTx, frzC, iC, sC]) (by simp) (by as_aux_lemma => kernel_rfl) (by as_aux_lemma => kernel_rfl) (by as_aux_lemma => kernel_rfl) ?_
          refine aa_all [8] (by as_aux_lemma => kernel_rfl) rfl ?_
          refine aa_cons ?_ aa_nil
          refine aone_any (listed' := #[true, true, true, true, true, true, true, true, true, false]) (st1 := mk 12 [(2, .one (.pl [(2, 0)] 0 0)), (11, .agg [.so [] 6 0 ((p0.held).length), .so [] 10 0 ((p0.wait).length)])] [(2, [.bx [.sl 6 ([]), .sl 6 ([])]]), (6, [.sl 6 ((p0.held).map eLock)]), (10, [.sl 6 ((p0.wait).map eLock)])]) [2, 11] tyOK (by as_aux_lemma => kernel_rfl) (by as_aux_lemma => kernel_rfl) ?_
          refine aa_all [9] (by as_aux_lemma => kernel_rfl) rfl ?_
          refine aa_cons ?_ aa_nil
          refine aone_o (ob := [(((p0.held).map eLock).length, (p0.held).length), (((p0.wait).map eLock).length, (p0.wait).length)]) (listed' := #[true, true, true, true, true, true, true, true, true, true]) (st1 := mk 12 [(2, .one (.pl [(2, 0)] 0 0))] [(2, [.bx [.sl 6 ((p0.held).map eLock), .sl 6 ((p0.wait).map eLock)]])]) [2] tyOK (by as_aux_lemma => kernel_rfl) ⟨by simp, by simp, trivial⟩ (by as_aux_lemma => kernel_rfl) (by as_aux_lemma => kernel_rfl) ?_
          refine aa_done (by as_aux_lemma => kernel_rfl) ?_
          show _ = _; kernel_rfl
        refine aa_cons ?_ aa_nil
        refine aone_any (listed' := #[true, true, true, false, true, true, true, false, false, false]) (st1 := mk 12 [(2, .one (.pl [(2, 0)] 0 0)), (3, .one (.so [] 3 0 0)), (5, .one (.c (.sl 6 ((p0.held).map eLock)))), (7, .one (.so [] 7 0 0)), (9, .one (.c (.sl 6 ((p0.wait).map eLock))))] [(2, [.bx [.sl 6 ([]), .sl 6 ([])]]), (3, [.sl 6 ([])]), (7, [.sl 6 ([])])]) [2, 3, 5, 7, 9] tyOK (by as_aux_lemma => kernel_rfl) (by as_aux_lemma => kernel_rfl) ?_
        refine aa_all [3] (by as_aux_lemma => kernel_rfl) rfl ?_
        refine aa_cons ?_ aa_nil
        refine aone_append (listed' := #[true, true, true, true, true, true, true, false, false, false]) (d := 6) (n := 0) (n' := ((p0.held).length)) (bytes := 64) (size := 6) (src := (some ([], 3, 0))) (rows := []) (tx := .one (.c (.sl 6 ((p0.held).map eLock)))) (new := ((p0.held).map eLock).map (List.map frzC)) (rows' := (p0.held).map eLock) (st1 := mk 12 [(2, .one (.pl [(2, 0)] 0 0)), (6, .one (.so [] 6 0 ((p0.held).length))), (7, .one (.so [] 7 0 0)), (9, .one (.c (.sl 6 ((p0.wait).map eLock))))] [(2, [.bx [.sl 6 ([]), .sl 6 ([])]]), (6, [.sl 6 ((p0.held).map eLock)]), (7, [.sl 6 ([])])]) [2, 6, 7, 9] tyOK (by as_aux_lemma => kernel_rfl) (appRows_fz (by simp [bC, eLock, eRange, eTx, frzC, iC, sC])) (by simp) (by simpa using c1) (by as_aux_lemma => kernel_rfl) (by simp [bC, eLock, eRange, eTx, frzC, iC, sC]) (by simp) (by as_aux_lemma => kernel_rfl) (by as_aux_lemma => kernel_rfl) (by as_aux_lemma => kernel_rfl) ?_
        refine aa_all [7] (by as_aux_lemma => kernel_rfl) rfl ?_
        refine aa_cons ?_ aa_nil
        refine aone_append (listed' := #[true, true, true, true, true, true, true, true, false, false]) (d := 10) (n := 0) (n' := ((p0.wait).length)) (bytes := 64) (size := 6) (src := (some ([], 7, 0))) (rows := []) (tx := .one (.c (.sl 6 ((p0.wait).map eLock)))) (new := ((p0.wait).map eLock).map (List.map frzC)) (rows' := (p0.wait).map eLock) (st1 := mk 12 [(2, .one (.pl [(2, 0)] 0 0)), (6, .one (.so [] 6 0 ((p0.held).length))), (10, .one (.so [] 10 0 ((p0.wait).length)))] [(2, [.bx [.sl 6 ([]), .sl 6 ([])]]), (6, [.sl 6 ((p0.held).map eLock)]), (10, [.sl 6 ((p0.wait).map eLock)])]) [2, 6, 10] tyOK (by as_aux_lemma => kernel_rfl) (appRows_fz (by simp [bC, eLock, eRange, eTx, frzC, iC, sC])) (by simp) (by simpa using c2) (by as_aux_lemma => kernel_rfl) (by simp [bC, eLock, eRange, eTx, frzC, iC, sC]) (by simp) (by as_aux_lemma => kernel_rfl) (by as_aux_lemma => kernel_rfl) (by as_aux_lemma => kernel_rfl) ?_
        refine aa_all [8] (by as_aux_lemma => kernel_rfl) rfl ?_
        refine aa_cons ?_ aa_nil
        refine aone_any (listed' := #[true, true, true, true, true, true, true, true, true, false]) (st1 := mk 12 [(2, .one (.pl [(2, 0)] 0 0)), (11, .agg [.so [] 6 0 ((p0.held).length), .so [] 10 0 ((p0.wait).length)])] [(2, [.bx [.sl 6 ([]), .sl 6 ([])]]), (6, [.sl 6 ((p0.held).map eLock)]), (10, [.sl 6 ((p0.wait).map eLock)])]) [2, 11] tyOK (by as_aux_lemma => kernel_rfl) (by as_aux_lemma => kernel_rfl) ?_
        refine aa_all [9] (by as_aux_lemma => kernel_rfl) rfl ?_
        refine aa_cons ?_ aa_nil
        refine aone_o (ob := [(((p0.held).map eLock).length, (p0.held).length), (((p0.wait).map eLock).length, (p0.wait).length)]) (listed' := #[true, true, true, true, true, true, true, true, true, true]) (st1 := mk 12 [(2, .one (.pl [(2, 0)] 0 0))] [(2, [.bx [.sl 6 ((p0.held).map eLock), .sl 6 ((p0.wait).map eLock)]])]) [2] tyOK (by as_aux_lemma => kernel_rfl) ⟨by simp, by simp, trivial⟩ (by as_aux_lemma => kernel_rfl) (by as_aux_lemma => kernel_rfl) ?_
        refine aa_done (by as_aux_lemma => kernel_rfl) ?_
        show _ = _; kernel_rfl
      refine aa_cons ?_ aa_nil
      refine aone_any (listed' := #[false, true, true, false, true, true, true, false, false, false]) (st1 := mk 12 [(2, .one (.pl [(2, 0)] 0 0)), (5, .one (.c (.sl 6 ((p0.held).map eLock)))), (7, .one (.so [] 7 0 0)), (9, .one (.c (.sl 6 ((p0.wait).map eLock))))] [(2, [.bx [.sl 6 ([]), .sl 6 ([])]]), (7, [.sl 6 ([])])]) [2, 5, 7, 9] tyOK (by as_aux_lemma => kernel_rfl) (by as_aux_lemma => kernel_rfl) ?_
      refine aa_all [0] (by as_aux_lemma => kernel_rfl) rfl ?_
      refine aa_cons ?_ aa_nil
      refine aone_any (listed' := #[true, true, true, false, true, true, true, false, false, false]) (st1 := mk 12 [(2, .one (.pl [(2, 0)] 0 0)), (3, .one (.so [] 3 0 0)), (5, .one (.c (.sl 6 ((p0.held).map eLock)))), (7, .one (.so [] 7 0 0)), (9, .one (.c (.sl 6 ((p0.wait).map eLock))))] [(2, [.bx [.sl 6 ([]), .sl 6 ([])]]), (3, [.sl 6 ([])]), (7, [.sl 6 ([])])]) [2, 3, 5, 7, 9] tyOK (by as_aux_lemma => kernel_rfl) (by as_aux_lemma => kernel_rfl) ?_
      refine aa_all [3] (by as_aux_lemma => kernel_rfl) rfl ?_
      refine aa_cons ?_ aa_nil
      refine aone_append (listed' := #[true, true, true, true, true, true, true, false, false, false]) (d := 6) (n := 0) (n' := ((p0.held).length)) (bytes := 64) (size := 6) (src := (some ([], 3, 0))) (rows := []) (tx := .one (.c (.sl 6 ((p0.held).map eLock)))) (new := ((p0.held).map eLock).map (List.map frzC)) (rows' := (p0.held).map eLock) (st1 := mk 12 [(2, .one (.pl [(2, 0)] 0 0)), (6, .one (.so [] 6 0 ((p0.held).length))), (7, .one (.so [] 7 0 0)), (9, .one (.c (.sl 6 ((p0.wait).map eLock))))] [(2, [.bx [.sl 6 ([]), .sl 6 ([])]]), (6, [.sl 6 ((p0.held).map eLock)]), (7, [.sl 6 ([])])]) [2, 6, 7, 9] tyOK (by as_aux_lemma => kernel_rfl) (appRows_fz (by simp [bC, eLock, eRange, eTx, frzC, iC, sC])) (by simp) (by simpa using c1) (by as_aux_lemma => kernel_rfl) (by simp [bC, eLock, eRange, eTx, frzC, iC, sC]) (by simp) (by as_aux_lemma => kernel_rfl) (by as_aux_lemma => kernel_rfl) (by as_aux_lemma => kernel_rfl) ?_
      refine aa_all [7] (by as_aux_lemma => kernel_rfl) rfl ?_
      refine aa_cons ?_ aa_nil
      refine aone_append (listed' := #[true, true, true, true, true, true, true, true, false, false]) (d := 10) (n := 0) (n' := ((p0.wait).length)) (bytes := 64) (size := 6) (src := (some ([], 7, 0))) (rows := []) (tx := .one (.c (.sl 6 ((p0.wait).map eLock)))) (new := ((p0.wait).map eLock).map (List.map frzC)) (rows' := (p0.wait).map eLock) (st1 := mk 12 [(2, .one (.pl [(2, 0)] 0 0)), (6, .one (.so [] 6 0 ((p0.held).length))), (10, .one (.so [] 10 0 ((p0.wait).length)))] [(2, [.bx [.sl 6 ([]), .sl 6 ([])]]), (6, [.sl 6 ((p0.held).map eLock)]), (10, [.sl 6 ((p0.wait).map eLock)])]) [2, 6, 10] tyOK (by as_aux_lemma => kernel_rfl) (appRows_fz (by simp [bC, eLock, eRange, eTx, frzC, iC, sC])) (by simp) (by simpa using c2) (by as_aux_lemma => kernel_rfl) (by simp [bC, eLock, eRange, eTx, frzC, iC, sC]) (by simp) (by as_aux_lemma => kernel_rfl) (by as_aux_lemma => kernel_rfl) (by as_aux_lemma => kernel_rfl) ?_
      refine aa_all [8] (by as_aux_lemma => kernel_rfl) rfl ?_
      refine aa_cons ?_ aa_nil
      refine aone_any (listed' := #[true, true, true, true, true, true, true, true, true, false]) (st1 := mk 12 [(2, .one (.pl [(2, 0)] 0 0)), (11, .agg [.so [] 6 0 ((p0.held).length), .so [] 10 0 ((p0.wait).length)])] [(2, [.bx [.sl 6 ([]), .sl 6 ([])]]), (6, [.sl 6 ((p0.held).map eLock)]), (10, [.sl 6 ((p0.wait).map eLock)])]) [2, 11] tyOK (by as_aux_lemma => kernel_rfl) (by as_aux_lemma => kernel_rfl) ?_
      refine aa_all [9] (by as_aux_lemma => kernel_rfl) rfl ?_
      refine aa_cons ?_ aa_nil
      refine aone_o (ob := [(((p0.held).map eLock).length, (p0.held).length), (((p0.wait).map eLock).length, (p0.wait).length)]) (listed' := #[true, true, true, true, true, true, true, true, true, true]) (st1 := mk 12 [(2, .one (.pl [(2, 0)] 0 0))] [(2, [.bx [.sl 6 ((p0.held).map eLock), .sl 6 ((p0.wait).map eLock)]])]) [2] tyOK (by as_aux_lemma => kernel_rfl) ⟨by simp, by simp, trivial⟩ (by as_aux_lemma => kernel_rfl) (by as_aux_lemma => kernel_rfl) ?_
      refine aa_done (by as_aux_lemma => kernel_rfl) ?_
      show _ = _; kernel_rfl
    refine a_ret ?_
    obtain rfl := Option.some.inj h
    exact end_own (ob := [(((p0.held).map eLock).length, ((p0.held).map eLock).length), (((p0.wait).map eLock).length, ((p0.wait).map eLock).length)]) (res' := .agg [.so [] 0 0 (((p0.held).map eLock).length), .so [] 0 1 (((p0.wait).map eLock).length)]) (row' := [.sl 6 ((p0.held).map eLock), .sl 6 ((p0.wait).map eLock)]) (by as_aux_lemma => kernel_rfl) ⟨by simp, by simp, trivial⟩ (by first | rfl | simp) (by first | rfl | simp)

noncomputable def s_LockAsk (p0 : Locks) (p1 : Lock) : Option (Locks × Int) :=
 bnd (bnd (s_LocksOk p0) fun r1 =>
 bif (!r1) then
 (some true)
 else
 (bif (!(s_l07LockOk p1)) then
 (some true)
 else
 (bnd (s_l07Waits p0 p1.tx) fun r2 =>
 some r2))) fun j1 =>
 bif j1 then
 (some (((⟨[], []⟩ : Locks), 1)))
 else
 (bif (decide ((IntKind.wrap .i64 ((((((p0.held).map eLock).length : Nat) : Int)) + (((((p0.wait).map eLock).length : Nat) : Int)))) ≥ 60)) then
 (some (((⟨[], []⟩ : Locks), 2)))
 else
 (bnd (s_l07Copy p0) fun r3 =>
 bnd (bnd (s_l07Any p0.held p1) fun r4 =>
 bif r4 then
 (some true)
 else
 (bnd (s_l07Any p0.wait p1) fun r5 =>
 some r5)) fun j2 =>
 bif j2 then
 (chk (((r3.wait).length + (([p1] : List Lock)).length) * 64 ≤ 140737488355328) <|
 some (((⟨r3.held, r3.wait ++ ([p1] : List Lock)⟩ : Locks), 3)))
 else
 (chk (((r3.held).length + (([p1] : List Lock)).length) * 64 ≤ 140737488355328) <|
 some (((⟨r3.held ++ ([p1] : List Lock), r3.wait⟩ : Locks), 0)))))
set_option maxHeartbeats 4000000 in
/-- spec.LockAsk -/
theorem k_s_LockAsk (p0 : Locks) (p1 : Lock) (v : Locks × Int) (h : s_LockAsk p0 p1 = some v) : CallOK Try.prog 29 [.agg [.c (.sl 6 ((p0.held).map eLock)), .c (.sl 6 ((p0.wait).map eLock))], .agg [.c (iC p1.tx.c), .c (iC p1.tx.e), .c (iC p1.tx.n), .c (sC p1.range.lo), .c (sC p1.range.hi), .c (bC p1.ex)]] (.tup [.agg [.so [] 0 0 ((v.1.held).length), .so [] 0 1 ((v.1.wait).length)], .one (.c (iC v.2))]) [.sl 6 ((v.1.held).map eLock), .sl 6 ((v.1.wait).map eLock)] :=
  callOK tyOK Try.func29 rfl fun w S hS => by
    unfold s_LockAsk at h
    refine a_seq ?_
    refine a_run [2, 3, 4] tyOK (st1 := mk 57 [(2, .one (.pl [(2, 0)] 0 0)), (3, .one (.pl [(3, 0)] 0 0)), (4, .one (.pl [(4, 0)] 0 0))] [(2, [.bx [.fz (.sl 6 ((p0.held).map eLock)), .fz (.sl 6 ((p0.wait).map eLock))]]), (3, [.bx [iC p1.tx.c, iC p1.tx.e, iC p1.tx.n, sC p1.range.lo, sC p1.range.hi, bC p1.ex]]), (4, [.bx [.sl 6 ([]), .sl 6 ([])]])]) (by kernel_rfl) ?_
    refine a_seq ?_
    refine a_seq ?_
    obtain ⟨y1, h, ky1⟩ := bndJ_e h
    refine a_joinT (ι := Bool) (fun j => mk 57 [(2, .one (.pl [(2, 0)] 0 0)), (3, .one (.pl [(3, 0)] 0 0)), (4, .one (.pl [(4, 0)] 0 0)), (20, bV j)] [(2, [.bx [.fz (.sl 6 ((p0.held).map eLock)), .fz (.sl 6 ((p0.wait).map eLock))]]), (3, [.bx [iC p1.tx.c, iC p1.tx.e, iC p1.tx.n, sC p1.range.lo, sC p1.range.hi, bC p1.ex]]), (4, [.bx [.sl 6 ([]), .sl 6 ([])]])]) (fun j => y1 = j) ?_ ?_
    · refine a_ops [0, 1, 2, 3, 4, 5, 6, 7, 8, 9, 10, 11, 12, 13] (by kernel_rfl) ?_
      refine ao_some [0] [1, 2, 3, 4, 5, 6, 7, 8, 9, 10, 11, 12, 13] [2, 3, 4, 7] tyOK (st1 := mk 57 [(2, .one (.pl [(2, 0)] 0 0)), (3, .one (.pl [(3, 0)] 0 0)), (4, .one (.pl [(4, 0)] 0 0)), (7, .agg [.c (.sl 6 ((p0.held).map eLock)), .c (.sl 6 ((p0.wait).map eLock))])] [(2, [.bx [.fz (.sl 6 ((p0.held).map eLock)), .fz (.sl 6 ((p0.wait).map eLock))]]), (3, [.bx [iC p1.tx.c, iC p1.tx.e, iC p1.tx.n, sC p1.range.lo, sC p1.range.hi, bC p1.ex]]), (4, [.bx [.sl 6 ([]), .sl 6 ([])]])]) (by kernel_rfl) ?_
      obtain ⟨r1, er1, h⟩ := bnd_e h
      refine ao_enter (f := 60) (d := 8) (A := [.agg [.c (.sl 6 ((p0.held).map eLock)), .c (.sl 6 ((p0.wait).map eLock))]]) (st1 := mk 57 [(2, .one (.pl [(2, 0)] 0 0)), (3, .one (.pl [(3, 0)] 0 0)), (4, .one (.pl [(4, 0)] 0 0)), (8, bV r1)] [(2, [.bx [.fz (.sl 6 ((p0.held).map eLock)), .fz (.sl 6 ((p0.wait).map eLock))]]), (3, [.bx [iC p1.tx.c, iC p1.tx.e, iC p1.tx.n, sC p1.range.lo, sC p1.range.hi, bC p1.ex]]), (4, [.bx [.sl 6 ([]), .sl 6 ([])]])]) [2, 3, 4, 8] (k_s_LocksOk p0 r1 er1) Try.call60 (by kernel_rfl) (by kernel_rfl) (by kernel_rfl) ?_
      refine ao_some [2, 3] [4, 5, 6, 7, 8, 9, 10, 11, 12, 13] [2, 3, 4, 10] tyOK (st1 := mk 57 [(2, .one (.pl [(2, 0)] 0 0)), (3, .one (.pl [(3, 0)] 0 0)), (4, .one (.pl [(4, 0)] 0 0)), (10, bV (!r1))] [(2, [.bx [.fz (.sl 6 ((p0.held).map eLock)), .fz (.sl 6 ((p0.wait).map eLock))]]), (3, [.bx [iC p1.tx.c, iC p1.tx.e, iC p1.tx.n, sC p1.range.lo, sC p1.range.hi, bC p1.ex]]), (4, [.bx [.sl 6 ([]), .sl 6 ([])]])]) (by kernel_rfl) ?_
      rcases Bool.eq_false_or_eq_true (!r1) with h1 | h1
      · replace h := cT h1 h
        refine ao_says (k := 10) (t := bV (!r1)) (t' := bV true) (st1 := mk 57 [(2, .one (.pl [(2, 0)] 0 0)), (3, .one (.pl [(3, 0)] 0 0)), (4, .one (.pl [(4, 0)] 0 0)), (10, bV true)] [(2, [.bx [.fz (.sl 6 ((p0.held).map eLock)), .fz (.sl 6 ((p0.wait).map eLock))]]), (3, [.bx [iC p1.tx.c, iC p1.tx.e, iC p1.tx.n, sC p1.range.lo, sC p1.range.hi, bC p1.ex]]), (4, [.bx [.sl 6 ([]), .sl 6 ([])]])]) (by kernel_rfl) (by rw [h1]) (by kernel_rfl) ?_
        refine ao_some [4, 5, 6, 7, 8, 9, 10, 11, 12, 13] [] [2, 3, 4, 20] tyOK (st1 := mk 57 [(2, .one (.pl [(2, 0)] 0 0)), (3, .one (.pl [(3, 0)] 0 0)), (4, .one (.pl [(4, 0)] 0 0)), (20, bV true)] [(2, [.bx [.fz (.sl 6 ((p0.held).map eLock)), .fz (.sl 6 ((p0.wait).map eLock))]]), (3, [.bx [iC p1.tx.c, iC p1.tx.e, iC p1.tx.n, sC p1.range.lo, sC p1.range.hi, bC p1.ex]]), (4, [.bx [.sl 6 ([]), .sl 6 ([])]])]) (by kernel_rfl) ?_
        refine ao_nil ?_
        obtain rfl := Option.some.inj h
        show ∃ _, _ ∧ Imp _ _ _
        refine ⟨_, rfl, ?_⟩
        exact imp_keepTo [2, 3, 4, 20] (by kernel_rfl) (imp_done rfl)
      · replace h := cF h1 h
        refine ao_says (k := 10) (t := bV (!r1)) (t' := bV false) (st1 := mk 57 [(2, .one (.pl [(2, 0)] 0 0)), (3, .one (.pl [(3, 0)] 0 0)), (4, .one (.pl [(4, 0)] 0 0)), (10, bV false)] [(2, [.bx [.fz (.sl 6 ((p0.held).map eLock)), .fz (.sl 6 ((p0.wait).map eLock))]]), (3, [.bx [iC p1.tx.c, iC p1.tx.e, iC p1.tx.n, sC p1.range.lo, sC p1.range.hi, bC p1.ex]]), (4, [.bx [.sl 6 ([]), .sl 6 ([])]])]) (by kernel_rfl) (by rw [h1]) (by kernel_rfl) ?_
        refine ao_some [4] [5, 6, 7, 8, 9, 10, 11, 12, 13] [2, 3, 4, 10, 11] tyOK (st1 := mk 57 [(2, .one (.pl [(2, 0)] 0 0)), (3, .one (.pl [(3, 0)] 0 0)), (4, .one (.pl [(4, 0)] 0 0)), (10, bV false), (11, .agg [.c (iC p1.tx.c), .c (iC p1.tx.e), .c (iC p1.tx.n), .c (sC p1.range.lo), .c (sC p1.range.hi), .c (bC p1.ex)])] [(2, [.bx [.fz (.sl 6 ((p0.held).map eLock)), .fz (.sl 6 ((p0.wait).map eLock))]]), (3, [.bx [iC p1.tx.c, iC p1.tx.e, iC p1.tx.n, sC p1.range.lo, sC p1.range.hi, bC p1.ex]]), (4, [.bx [.sl 6 ([]), .sl 6 ([])]])]) (by kernel_rfl) ?_
        refine ao_enter (f := 61) (d := 12) (A := [.agg [.c (iC p1.tx.c), .c (iC p1.tx.e), .c (iC p1.tx.n), .c (sC p1.range.lo), .c (sC p1.range.hi), .c (bC p1.ex)]]) (st1 := mk 57 [(2, .one (.pl [(2, 0)] 0 0)), (3, .one (.pl [(3, 0)] 0 0)), (4, .one (.pl [(4, 0)] 0 0)), (10, bV false), (12, bV (s_l07LockOk p1))] [(2, [.bx [.fz (.sl 6 ((p0.held).map eLock)), .fz (.sl 6 ((p0.wait).map eLock))]]), (3, [.bx [iC p1.tx.c, iC p1.tx.e, iC p1.tx.n, sC p1.range.lo, sC p1.range.hi, bC p1.ex]]), (4, [.bx [.sl 6 ([]), .sl 6 ([])]])]) [2, 3, 4, 10, 12] (k_s_l07LockOk p1 _ rfl) Try.call61 (by kernel_rfl) (by kernel_rfl) (by kernel_rfl) ?_
        refine ao_some [6, 7, 8] [9, 10, 11, 12, 13] [2, 3, 4, 15] tyOK (st1 := mk 57 [(2, .one (.pl [(2, 0)] 0 0)), (3, .one (.pl [(3, 0)] 0 0)), (4, .one (.pl [(4, 0)] 0 0)), (15, bV (!(s_l07LockOk p1)))] [(2, [.bx [.fz (.sl 6 ((p0.held).map eLock)), .fz (.sl 6 ((p0.wait).map eLock))]]), (3, [.bx [iC p1.tx.c, iC p1.tx.e, iC p1.tx.n, sC p1.range.lo, sC p1.range.hi, bC p1.ex]]), (4, [.bx [.sl 6 ([]), .sl 6 ([])]])]) (by kernel_rfl) ?_
        rcases Bool.eq_false_or_eq_true (!(s_l07LockOk p1)) with h2 | h2
        · replace h := cT h2 h
          refine ao_says (k := 15) (t := bV (!(s_l07LockOk p1))) (t' := bV true) (st1 := mk 57 [(2, .one (.pl [(2, 0)] 0 0)), (3, .one (.pl [(3, 0)] 0 0)), (4, .one (.pl [(4, 0)] 0 0)), (15, bV true)] [(2, [.bx [.fz (.sl 6 ((p0.held).map eLock)), .fz (.sl 6 ((p0.wait).map eLock))]]), (3, [.bx [iC p1.tx.c, iC p1.tx.e, iC p1.tx.n, sC p1.range.lo, sC p1.range.hi, bC p1.ex]]), (4, [.bx [.sl 6 ([]), .sl 6 ([])]])]) (by kernel_rfl) (by rw [h2]) (by kernel_rfl) ?_
          refine ao_some [9, 10, 11, 12, 13] [] [2, 3, 4, 20] tyOK (st1 := mk 57 [(2, .one (.pl [(2, 0)] 0 0)), (3, .one (.pl [(3, 0)] 0 0)), (4, .one (.pl [(4, 0)] 0 0)), (20, bV true)] [(2, [.bx [.fz (.sl 6 ((p0.held).map eLock)), .fz (.sl 6 ((p0.wait).map eLock))]]), (3, [.bx [iC p1.tx.c, iC p1.tx.e, iC p1.tx.n, sC p1.range.lo, sC p1.range.hi, bC p1.ex]]), (4, [.bx [.sl 6 ([]), .sl 6 ([])]])]) (by kernel_rfl) ?_
          refine ao_nil ?_
          obtain rfl := Option.some.inj h
          show ∃ _, _ ∧ Imp _ _ _
          refine ⟨_, rfl, ?_⟩
          exact imp_keepTo [2, 3, 4, 20] (by kernel_rfl) (imp_done rfl)
        · replace h := cF h2 h
          refine ao_says (k := 15) (t := bV (!(s_l07LockOk p1))) (t' := bV false) (st1 := mk 57 [(2, .one (.pl [(2, 0)] 0 0)), (3, .one (.pl [(3, 0)] 0 0)), (4, .one (.pl [(4, 0)] 0 0)), (15, bV false)] [(2, [.bx [.fz (.sl 6 ((p0.held).map eLock)), .fz (.sl 6 ((p0.wait).map eLock))]]), (3, [.bx [iC p1.tx.c, iC p1.tx.e, iC p1.tx.n, sC p1.range.lo, sC p1.range.hi, bC p1.ex]]), (4, [.bx [.sl 6 ([]), .sl 6 ([])]])]) (by kernel_rfl) (by rw [h2]) (by kernel_rfl) ?_
          refine ao_some [9, 10, 11] [12, 13] [2, 3, 4, 15, 16, 18] tyOK (st1 := mk 57 [(2, .one (.pl [(2, 0)] 0 0)), (3, .one (.pl [(3, 0)] 0 0)), (4, .one (.pl [(4, 0)] 0 0)), (15, bV false), (16, .agg [.c (.sl 6 ((p0.held).map eLock)), .c (.sl 6 ((p0.wait).map eLock))]), (18, .agg [.c (iC p1.tx.c), .c (iC p1.tx.e), .c (iC p1.tx.n)])] [(2, [.bx [.fz (.sl 6 ((p0.held).map eLock)), .fz (.sl 6 ((p0.wait).map eLock))]]), (3, [.bx [iC p1.tx.c, iC p1.tx.e, iC p1.tx.n, sC p1.range.lo, sC p1.range.hi, bC p1.ex]]), (4, [.bx [.sl 6 ([]), .sl 6 ([])]])]) (by kernel_rfl) ?_
          obtain ⟨r2, er2, h⟩ := bnd_e h
          refine ao_enter (f := 62) (d := 19) (A := [.agg [.c (.sl 6 ((p0.held).map eLock)), .c (.sl 6 ((p0.wait).map eLock))], .agg [.c (iC p1.tx.c), .c (iC p1.tx.e), .c (iC p1.tx.n)]]) (st1 := mk 57 [(2, .one (.pl [(2, 0)] 0 0)), (3, .one (.pl [(3, 0)] 0 0)), (4, .one (.pl [(4, 0)] 0 0)), (15, bV false), (19, bV r2)] [(2, [.bx [.fz (.sl 6 ((p0.held).map eLock)), .fz (.sl 6 ((p0.wait).map eLock))]]), (3, [.bx [iC p1.tx.c, iC p1.tx.e, iC p1.tx.n, sC p1.range.lo, sC p1.range.hi, bC p1.ex]]), (4, [.bx [.sl 6 ([]), .sl 6 ([])]])]) [2, 3, 4, 15, 19] (k_s_l07Waits p0 p1.tx r2 er2) Try.call62 (by kernel_rfl) (by kernel_rfl) (by kernel_rfl) ?_
          refine ao_some [13] [] [2, 3, 4, 20] tyOK (st1 := mk 57 [(2, .one (.pl [(2, 0)] 0 0)), (3, .one (.pl [(3, 0)] 0 0)), (4, .one (.pl [(4, 0)] 0 0)), (20, bV r2)] [(2, [.bx [.fz (.sl 6 ((p0.held).map eLock)), .fz (.sl 6 ((p0.wait).map eLock))]]), (3, [.bx [iC p1.tx.c, iC p1.tx.e, iC p1.tx.n, sC p1.range.lo, sC p1.range.hi, bC p1.ex]]), (4, [.bx [.sl 6 ([]), .sl 6 ([])]])]) (by kernel_rfl) ?_
          refine ao_nil ?_
          obtain rfl := Option.some.inj h
          show ∃ _, _ ∧ Imp _ _ _
          refine ⟨_, rfl, ?_⟩
          exact imp_keepTo [2, 3, 4, 20] (by kernel_rfl) (imp_done rfl)
    intro j1 hj1
    replace h := ky1 _ hj1
    refine a_cond (b := j1) (by kernel_rfl) (fun h3 => ?_) (fun h3 => ?_)
    · replace h := cT h3 h
      refine a_seq ?_
      refine a_run [4, 5] tyOK (st1 := mk 57 [(4, .one (.pl [(4, 0)] 0 0)), (5, iV 1)] [(4, [.bx [.sl 6 ([]), .sl 6 ([])]])]) (by kernel_rfl) ?_
      refine a_ret ?_
      obtain rfl := Option.some.inj h
      exact end_own (ob := [(0, 0), (0, 0)]) (res' := .tup [.agg [.so [] 0 0 0, .so [] 0 1 0], .one (.c (iC 1))]) (row' := [.sl 6 ([]), .sl 6 ([])]) (by kernel_rfl) ⟨by simp, by simp, trivial⟩ (by first | rfl | simp) (by first | rfl | simp)
    · replace h := cF h3 h
      refine a_skip ?_
      refine a_seq ?_
      refine a_seq ?_
      refine a_run [2, 3, 4, 29] tyOK (st1 := mk 57 [(2, .one (.pl [(2, 0)] 0 0)), (3, .one (.pl [(3, 0)] 0 0)), (4, .one (.pl [(4, 0)] 0 0)), (29, bV (decide ((IntKind.wrap .i64 ((((((p0.held).map eLock).length : Nat) : Int)) + (((((p0.wait).map eLock).length : Nat) : Int)))) ≥ 60)))] [(2, [.bx [.fz (.sl 6 ((p0.held).map eLock)), .fz (.sl 6 ((p0.wait).map eLock))]]), (3, [.bx [iC p1.tx.c, iC p1.tx.e, iC p1.tx.n, sC p1.range.lo, sC p1.range.hi, bC p1.ex]]), (4, [.bx [.sl 6 ([]), .sl 6 ([])]])]) (by kernel_rfl) ?_
      refine a_cond (b := decide ((IntKind.wrap .i64 ((((((p0.held).map eLock).length : Nat) : Int)) + (((((p0.wait).map eLock).length : Nat) : Int)))) ≥ 60)) (by kernel_rfl) (fun h4 => ?_) (fun h4 => ?_)
      · replace h := cT h4 h
        refine a_seq ?_
        refine a_run [4, 5] tyOK (st1 := mk 57 [(4, .one (.pl [(4, 0)] 0 0)), (5, iV 2)] [(4, [.bx [.sl 6 ([]), .sl 6 ([])]])]) (by kernel_rfl) ?_
        refine a_ret ?_
        obtain rfl := Option.some.inj h
        exact end_own (ob := [(0, 0), (0, 0)]) (res' := .tup [.agg [.so [] 0 0 0, .so [] 0 1 0], .one (.c (iC 2))]) (row' := [.sl 6 ([]), .sl 6 ([])]) (by kernel_rfl) ⟨by simp, by simp, trivial⟩ (by first | rfl | simp) (by first | rfl | simp)
      · replace h := cF h4 h
        refine a_skip ?_
        refine a_seq ?_
        refine a_ops [0, 1, 2, 3] (by kernel_rfl) ?_
        refine ao_some [0] [1, 2, 3] [2, 3, 4, 31] tyOK (st1 := mk 57 [(2, .one (.pl [(2, 0)] 0 0)), (3, .one (.pl [(3, 0)] 0 0)), (4, .one (.pl [(4, 0)] 0 0)), (31, .agg [.c (.sl 6 ((p0.held).map eLock)), .c (.sl 6 ((p0.wait).map eLock))])] [(2, [.bx [.fz (.sl 6 ((p0.held).map eLock)), .fz (.sl 6 ((p0.wait).map eLock))]]), (3, [.bx [iC p1.tx.c, iC p1.tx.e, iC p1.tx.n, sC p1.range.lo, sC p1.range.hi, bC p1.ex]]), (4, [.bx [.sl 6 ([]), .sl 6 ([])]])]) (by kernel_rfl) ?_
        obtain ⟨r3, er3, h⟩ := bnd_e h
        refine ao_enter (f := 63) (d := 32) (A := [.agg [.c (.sl 6 ((p0.held).map eLock)), .c (.sl 6 ((p0.wait).map eLock))]]) (st1 := mk 57 [(2, .one (.pl [(2, 0)] 0 0)), (3, .one (.pl [(3, 0)] 0 0)), (4, .one (.pl [(4, 0)] 0 0)), (32, .agg [.so [] 32 0 ((r3.held).length), .so [] 32 1 ((r3.wait).length)])] [(2, [.bx [.fz (.sl 6 ((p0.held).map eLock)), .fz (.sl 6 ((p0.wait).map eLock))]]), (3, [.bx [iC p1.tx.c, iC p1.tx.e, iC p1.tx.n, sC p1.range.lo, sC p1.range.hi, bC p1.ex]]), (4, [.bx [.sl 6 ([]), .sl 6 ([])]]), (32, [.sl 6 ((r3.held).map eLock), .sl 6 ((r3.wait).map eLock)])]) [2, 3, 4, 32] (k_s_l07Copy p0 r3 er3) Try.call63 (by kernel_rfl) (by kernel_rfl) (by kernel_rfl) ?_
        refine ao_some [2] [3] [2, 3, 4, 6, 32] tyOK (st1 := mk 57 [(2, .one (.pl [(2, 0)] 0 0)), (3, .one (.pl [(3, 0)] 0 0)), (4, .one (.pl [(4, 0)] 0 0)), (6, .one (.pl [(6, 0)] 0 0)), (32, .agg [.so [] 32 0 ((r3.held).length), .so [] 32 1 ((r3.wait).length)])] [(2, [.bx [.fz (.sl 6 ((p0.held).map eLock)), .fz (.sl 6 ((p0.wait).map eLock))]]), (3, [.bx [iC p1.tx.c, iC p1.tx.e, iC p1.tx.n, sC p1.range.lo, sC p1.range.hi, bC p1.ex]]), (4, [.bx [.sl 6 ([]), .sl 6 ([])]]), (6, [.bx [.sl 6 ([]), .sl 6 ([])]]), (32, [.sl 6 ((r3.held).map eLock), .sl 6 ((r3.wait).map eLock)])]) (by kernel_rfl) ?_
        refine ao_o (ob := [(((r3.held).map eLock).length, (r3.held).length), (((r3.wait).map eLock).length, (r3.wait).length)]) (st1 := mk 57 [(2, .one (.pl [(2, 0)] 0 0)), (3, .one (.pl [(3, 0)] 0 0)), (4, .one (.pl [(4, 0)] 0 0)), (6, .one (.pl [(6, 0)] 0 0))] [(2, [.bx [.fz (.sl 6 ((p0.held).map eLock)), .fz (.sl 6 ((p0.wait).map eLock))]]), (3, [.bx [iC p1.tx.c, iC p1.tx.e, iC p1.tx.n, sC p1.range.lo, sC p1.range.hi, bC p1.ex]]), (4, [.bx [.sl 6 ([]), .sl 6 ([])]]), (6, [.bx [.sl 6 ((r3.held).map eLock), .sl 6 ((r3.wait).map eLock)]])]) [2, 3, 4, 6] tyOK (by kernel_rfl) ⟨by simp, by simp, trivial⟩ ?_
        refine ao_nil ?_
        refine a_seq ?_
        refine a_seq ?_
        obtain ⟨y2, h, ky2⟩ := bndJ_e h
        refine a_joinT (ι := Bool) (fun j => mk 57 [(3, .one (.pl [(3, 0)] 0 0)), (4, .one (.pl [(4, 0)] 0 0)), (6, .one (.pl [(6, 0)] 0 0)), (42, bV j)] [(3, [.bx [iC p1.tx.c, iC p1.tx.e, iC p1.tx.n, sC p1.range.lo, sC p1.range.hi, bC p1.ex]]), (4, [.bx [.sl 6 ([]), .sl 6 ([])]]), (6, [.bx [.sl 6 ((r3.held).map eLock), .sl 6 ((r3.wait).map eLock)]])]) (fun j => y2 = j) ?_ ?_
        · refine a_ops [0, 1, 2, 3, 4, 5, 6, 7, 8, 9] (by kernel_rfl) ?_
          refine ao_some [0, 1, 2] [3, 4, 5, 6, 7, 8, 9] [2, 3, 4, 6, 34, 35] tyOK (st1 := mk 57 [(2, .one (.pl [(2, 0)] 0 0)), (3, .one (.pl [(3, 0)] 0 0)), (4, .one (.pl [(4, 0)] 0 0)), (6, .one (.pl [(6, 0)] 0 0)), (34, .one (.c (.sl 6 ((p0.held).map eLock)))), (35, .agg [.c (iC p1.tx.c), .c (iC p1.tx.e), .c (iC p1.tx.n), .c (sC p1.range.lo), .c (sC p1.range.hi), .c (bC p1.ex)])] [(2, [.bx [.fz (.sl 6 ((p0.held).map eLock)), .fz (.sl 6 ((p0.wait).map eLock))]]), (3, [.bx [iC p1.tx.c, iC p1.tx.e, iC p1.tx.n, sC p1.range.lo, sC p1.range.hi, bC p1.ex]]), (4, [.bx [.sl 6 ([]), .sl 6 ([])]]), (6, [.bx [.sl 6 ((r3.held).map eLock), .sl 6 ((r3.wait).map eLock)]])]) (by kernel_rfl) ?_
          obtain ⟨r4, er4, h⟩ := bnd_e h
          refine ao_enter (f := 64) (d := 36) (A := [.one (.c (.sl 6 ((p0.held).map eLock))), .agg [.c (iC p1.tx.c), .c (iC p1.tx.e), .c (iC p1.tx.n), .c (sC p1.range.lo), .c (sC p1.range.hi), .c (bC p1.ex)]]) (st1 := mk 57 [(2, .one (.pl [(2, 0)] 0 0)), (3, .one (.pl [(3, 0)] 0 0)), (4, .one (.pl [(4, 0)] 0 0)), (6, .one (.pl [(6, 0)] 0 0)), (36, bV r4)] [(2, [.bx [.fz (.sl 6 ((p0.held).map eLock)), .fz (.sl 6 ((p0.wait).map eLock))]]), (3, [.bx [iC p1.tx.c, iC p1.tx.e, iC p1.tx.n, sC p1.range.lo, sC p1.range.hi, bC p1.ex]]), (4, [.bx [.sl 6 ([]), .sl 6 ([])]]), (6, [.bx [.sl 6 ((r3.held).map eLock), .sl 6 ((r3.wait).map eLock)]])]) [2, 3, 4, 6, 36] (k_s_l07Any p0.held p1 r4 er4) Try.call64 (by kernel_rfl) (by kernel_rfl) (by kernel_rfl) ?_
          refine ao_some [4] [5, 6, 7, 8, 9] [2, 3, 4, 6, 37] tyOK (st1 := mk 57 [(2, .one (.pl [(2, 0)] 0 0)), (3, .one (.pl [(3, 0)] 0 0)), (4, .one (.pl [(4, 0)] 0 0)), (6, .one (.pl [(6, 0)] 0 0)), (37, bV r4)] [(2, [.bx [.fz (.sl 6 ((p0.held).map eLock)), .fz (.sl 6 ((p0.wait).map eLock))]]), (3, [.bx [iC p1.tx.c, iC p1.tx.e, iC p1.tx.n, sC p1.range.lo, sC p1.range.hi, bC p1.ex]]), (4, [.bx [.sl 6 ([]), .sl 6 ([])]]), (6, [.bx [.sl 6 ((r3.held).map eLock), .sl 6 ((r3.wait).map eLock)]])]) (by kernel_rfl) ?_
          rcases Bool.eq_false_or_eq_true (r4) with h5 | h5
          · replace h := cT h5 h
            refine ao_says (k := 37) (t := bV r4) (t' := bV true) (st1 := mk 57 [(2, .one (.pl [(2, 0)] 0 0)), (3, .one (.pl [(3, 0)] 0 0)), (4, .one (.pl [(4, 0)] 0 0)), (6, .one (.pl [(6, 0)] 0 0)), (37, bV true)] [(2, [.bx [.fz (.sl 6 ((p0.held).map eLock)), .fz (.sl 6 ((p0.wait).map eLock))]]), (3, [.bx [iC p1.tx.c, iC p1.tx.e, iC p1.tx.n, sC p1.range.lo, sC p1.range.hi, bC p1.ex]]), (4, [.bx [.sl 6 ([]), .sl 6 ([])]]), (6, [.bx [.sl 6 ((r3.held).map eLock), .sl 6 ((r3.wait).map eLock)]])]) (by kernel_rfl) (by rw [h5]) (by kernel_rfl) ?_
            refine ao_some [5, 6, 7, 8, 9] [] [3, 4, 6, 42] tyOK (st1 := mk 57 [(3, .one (.pl [(3, 0)] 0 0)), (4, .one (.pl [(4, 0)] 0 0)), (6, .one (.pl [(6, 0)] 0 0)), (42, bV true)] [(3, [.bx [iC p1.tx.c, iC p1.tx.e, iC p1.tx.n, sC p1.range.lo, sC p1.range.hi, bC p1.ex]]), (4, [.bx [.sl 6 ([]), .sl 6 ([])]]), (6, [.bx [.sl 6 ((r3.held).map eLock), .sl 6 ((r3.wait).map eLock)]])]) (by kernel_rfl) ?_
            refine ao_nil ?_
            obtain rfl := Option.some.inj h
            show ∃ _, _ ∧ Imp _ _ _
            refine ⟨_, rfl, ?_⟩
            exact imp_keepTo [3, 4, 6, 42] (by kernel_rfl) (imp_done rfl)
          · replace h := cF h5 h
            refine ao_says (k := 37) (t := bV r4) (t' := bV false) (st1 := mk 57 [(2, .one (.pl [(2, 0)] 0 0)), (3, .one (.pl [(3, 0)] 0 0)), (4, .one (.pl [(4, 0)] 0 0)), (6, .one (.pl [(6, 0)] 0 0)), (37, bV false)] [(2, [.bx [.fz (.sl 6 ((p0.held).map eLock)), .fz (.sl 6 ((p0.wait).map eLock))]]), (3, [.bx [iC p1.tx.c, iC p1.tx.e, iC p1.tx.n, sC p1.range.lo, sC p1.range.hi, bC p1.ex]]), (4, [.bx [.sl 6 ([]), .sl 6 ([])]]), (6, [.bx [.sl 6 ((r3.held).map eLock), .sl 6 ((r3.wait).map eLock)]])]) (by kernel_rfl) (by rw [h5]) (by kernel_rfl) ?_
            refine ao_some [5, 6, 7] [8, 9] [3, 4, 6, 37, 39, 40] tyOK (st1 := mk 57 [(3, .one (.pl [(3, 0)] 0 0)), (4, .one (.pl [(4, 0)] 0 0)), (6, .one (.pl [(6, 0)] 0 0)), (37, bV false), (39, .one (.c (.sl 6 ((p0.wait).map eLock)))), (40, .agg [.c (iC p1.tx.c), .c (iC p1.tx.e), .c (iC p1.tx.n), .c (sC p1.range.lo), .c (sC p1.range.hi), .c (bC p1.ex)])] [(3, [.bx [iC p1.tx.c, iC p1.tx.e, iC p1.tx.n, sC p1.range.lo, sC p1.range.hi, bC p1.ex]]), (4, [.bx [.sl 6 ([]), .sl 6 ([])]]), (6, [.bx [.sl 6 ((r3.held).map eLock), .sl 6 ((r3.wait).map eLock)]])]) (by kernel_rfl) ?_
            obtain ⟨r5, er5, h⟩ := bnd_e h
            refine ao_enter (f := 64) (d := 41) (A := [.one (.c (.sl 6 ((p0.wait).map eLock))), .agg [.c (iC p1.tx.c), .c (iC p1.tx.e), .c (iC p1.tx.n), .c (sC p1.range.lo), .c (sC p1.range.hi), .c (bC p1.ex)]]) (st1 := mk 57 [(3, .one (.pl [(3, 0)] 0 0)), (4, .one (.pl [(4, 0)] 0 0)), (6, .one (.pl [(6, 0)] 0 0)), (37, bV false), (41, bV r5)] [(3, [.bx [iC p1.tx.c, iC p1.tx.e, iC p1.tx.n, sC p1.range.lo, sC p1.range.hi, bC p1.ex]]), (4, [.bx [.sl 6 ([]), .sl 6 ([])]]), (6, [.bx [.sl 6 ((r3.held).map eLock), .sl 6 ((r3.wait).map eLock)]])]) [3, 4, 6, 37, 41] (k_s_l07Any p0.wait p1 r5 er5) Try.call64 (by kernel_rfl) (by kernel_rfl) (by kernel_rfl) ?_
            refine ao_some [9] [] [3, 4, 6, 42] tyOK (st1 := mk 57 [(3, .one (.pl [(3, 0)] 0 0)), (4, .one (.pl [(4, 0)] 0 0)), (6, .one (.pl [(6, 0)] 0 0)), (42, bV r5)] [(3, [.bx [iC p1.tx.c, iC p1.tx.e, iC p1.tx.n, sC p1.range.lo, sC p1.range.hi, bC p1.ex]]), (4, [.bx [.sl 6 ([]), .sl 6 ([])]]), (6, [.bx [.sl 6 ((r3.held).map eLock), .sl 6 ((r3.wait).map eLock)]])]) (by kernel_rfl) ?_
            refine ao_nil ?_
            obtain rfl := Option.some.inj h
            show ∃ _, _ ∧ Imp _ _ _
            refine ⟨_, rfl, ?_⟩
            exact imp_keepTo [3, 4, 6, 42] (by kernel_rfl) (imp_done rfl)
        intro j2 hj2
        replace h := ky2 _ hj2
        refine a_cond (b := j2) (by kernel_rfl) (fun h6 => ?_) (fun h6 => ?_)
        · replace h := cT h6 h
          refine a_seq ?_
          refine a_ops [0, 1, 2, 3, 4, 5, 6] (by kernel_rfl) ?_
          refine ao_some [0, 1, 2, 3] [4, 5, 6] [4, 6, 44, 46] tyOK (st1 := mk 57 [(4, .one (.pl [(4, 0)] 0 0)), (6, .one (.pl [(6, 0)] 0 0)), (44, .one (.so [(6, 0)] 0 1 (((r3.wait).map eLock).length))), (46, .one (.so [] 46 0 1))] [(4, [.bx [.sl 6 ([]), .sl 6 ([])]]), (6, [.bx [.sl 6 ((r3.held).map eLock), .sl 6 ((r3.wait).map eLock)]]), (46, [.sl 6 ([[iC p1.tx.c, iC p1.tx.e, iC p1.tx.n, sC p1.range.lo, sC p1.range.hi, bC p1.ex]])])]) (by kernel_rfl) ?_
          obtain ⟨c1, h⟩ := chk_e h
          refine ao_append (d := 47) (n := (((r3.wait).map eLock).length)) (n' := ((r3.wait ++ ([p1] : List Lock)).length)) (bytes := 64) (size := 6) (src := (some ([(6, 0)], 0, 1))) (rows := (r3.wait).map eLock) (tx := .one (.so [] 46 0 1)) (new := [[iC p1.tx.c, iC p1.tx.e, iC p1.tx.n, sC p1.range.lo, sC p1.range.hi, bC p1.ex]]) (rows' := (r3.wait ++ ([p1] : List Lock)).map eLock) (st1 := mk 57 [(4, .one (.pl [(4, 0)] 0 0)), (6, .one (.pl [(6, 0)] 0 0)), (47, .one (.so [] 47 0 ((r3.wait ++ ([p1] : List Lock)).length)))] [(4, [.bx [.sl 6 ([]), .sl 6 ([])]]), (6, [.bx [.sl 6 ((r3.held).map eLock), .dead]]), (47, [.sl 6 ((r3.wait ++ ([p1] : List Lock)).map eLock)])]) [4, 6, 47] tyOK (by kernel_rfl) (by kernel_rfl) (by simp) (by simpa using c1) (by kernel_rfl) (by simp [bC, eLock, eRange, eTx, frzC, iC, sC]) (by simp) (by kernel_rfl) ?_
          refine ao_some [5] [6] [4, 6, 47, 48] tyOK (st1 := mk 57 [(4, .one (.pl [(4, 0)] 0 0)), (6, .one (.pl [(6, 0)] 0 0)), (47, .one (.so [] 47 0 ((r3.wait ++ ([p1] : List Lock)).length))), (48, .one (.pl [(6, 0)] 0 1))] [(4, [.bx [.sl 6 ([]), .sl 6 ([])]]), (6, [.bx [.sl 6 ((r3.held).map eLock), .dead]]), (47, [.sl 6 ((r3.wait ++ ([p1] : List Lock)).map eLock)])]) (by kernel_rfl) ?_
          refine ao_o (ob := [(((r3.wait ++ ([p1] : List Lock)).map eLock).length, (r3.wait ++ ([p1] : List Lock)).length)]) (st1 := mk 57 [(4, .one (.pl [(4, 0)] 0 0)), (6, .one (.pl [(6, 0)] 0 0))] [(4, [.bx [.sl 6 ([]), .sl 6 ([])]]), (6, [.bx [.sl 6 ((r3.held).map eLock), .sl 6 ((r3.wait ++ ([p1] : List Lock)).map eLock)]])]) [4, 6] tyOK (by kernel_rfl) ⟨by simp, trivial⟩ ?_
          refine ao_nil ?_
          refine a_seq ?_
          refine a_ops [0, 1, 2] (by kernel_rfl) ?_
          refine ao_some [0] [1, 2] [4, 49] tyOK (st1 := mk 57 [(4, .one (.pl [(4, 0)] 0 0)), (49, .agg [.so [(6, 0)] 0 0 (((r3.held).map eLock).length), .so [(6, 0)] 0 1 (((r3.wait ++ ([p1] : List Lock)).map eLock).length)])] [(4, [.bx [.sl 6 ([]), .sl 6 ([])]]), (6, [.bx [.sl 6 ((r3.held).map eLock), .sl 6 ((r3.wait ++ ([p1] : List Lock)).map eLock)]])]) (by kernel_rfl) ?_
          refine ao_o (ob := [(((r3.held).map eLock).length, ((r3.held).map eLock).length), (((r3.wait ++ ([p1] : List Lock)).map eLock).length, ((r3.wait ++ ([p1] : List Lock)).map eLock).length)]) (st1 := mk 57 [(4, .one (.pl [(4, 0)] 0 0))] [(4, [.bx [.sl 6 ((r3.held).map eLock), .sl 6 ((r3.wait ++ ([p1] : List Lock)).map eLock)]])]) [4] tyOK (by kernel_rfl) ⟨by simp, by simp, trivial⟩ ?_
          refine ao_some [2] [] [4, 5] tyOK (st1 := mk 57 [(4, .one (.pl [(4, 0)] 0 0)), (5, iV 3)] [(4, [.bx [.sl 6 ((r3.held).map eLock), .sl 6 ((r3.wait ++ ([p1] : List Lock)).map eLock)]])]) (by kernel_rfl) ?_
          refine ao_nil ?_
          refine a_ret ?_
          obtain rfl := Option.some.inj h
          exact end_own (ob := [(((r3.held).map eLock).length, ((r3.held).map eLock).length), (((r3.wait ++ ([p1] : List Lock)).map eLock).length, ((r3.wait ++ ([p1] : List Lock)).map eLock).length)]) (res' := .tup [.agg [.so [] 0 0 (((r3.held).map eLock).length), .so [] 0 1 (((r3.wait ++ ([p1] : List Lock)).map eLock).length)], .one (.c (iC 3))]) (row' := [.sl 6 ((r3.held).map eLock), .sl 6 ((r3.wait ++ ([p1] : List Lock)).map eLock)]) (by kernel_rfl) ⟨by simp, by simp, trivial⟩ (by first | rfl | simp) (by first | rfl | simp)
        · replace h := cF h6 h
          refine a_skip ?_
          refine a_seq ?_
          refine a_ops [0, 1, 2, 3, 4, 5, 6] (by kernel_rfl) ?_
          refine ao_some [0, 1, 2, 3] [4, 5, 6] [4, 6, 51, 53] tyOK (st1 := mk 57 [(4, .one (.pl [(4, 0)] 0 0)), (6, .one (.pl [(6, 0)] 0 0)), (51, .one (.so [(6, 0)] 0 0 (((r3.held).map eLock).length))), (53, .one (.so [] 53 0 1))] [(4, [.bx [.sl 6 ([]), .sl 6 ([])]]), (6, [.bx [.sl 6 ((r3.held).map eLock), .sl 6 ((r3.wait).map eLock)]]), (53, [.sl 6 ([[iC p1.tx.c, iC p1.tx.e, iC p1.tx.n, sC p1.range.lo, sC p1.range.hi, bC p1.ex]])])]) (by kernel_rfl) ?_
          obtain ⟨c2, h⟩ := chk_e h
          refine ao_append (d := 54) (n := (((r3.held).map eLock).length)) (n' := ((r3.held ++ ([p1] : List Lock)).length)) (bytes := 64) (size := 6) (src := (some ([(6, 0)], 0, 0))) (rows := (r3.held).map eLock) (tx := .one (.so [] 53 0 1)) (new := [[iC p1.tx.c, iC p1.tx.e, iC p1.tx.n, sC p1.range.lo, sC p1.range.hi, bC p1.ex]]) (rows' := (r3.held ++ ([p1] : List Lock)).map eLock) (st1 := mk 57 [(4, .one (.pl [(4, 0)] 0 0)), (6, .one (.pl [(6, 0)] 0 0)), (54, .one (.so [] 54 0 ((r3.held ++ ([p1] : List Lock)).length)))] [(4, [.bx [.sl 6 ([]), .sl 6 ([])]]), (6, [.bx [.dead, .sl 6 ((r3.wait).map eLock)]]), (54, [.sl 6 ((r3.held ++ ([p1] : List Lock)).map eLock)])]) [4, 6, 54] tyOK (by kernel_rfl) (by kernel_rfl) (by simp) (by simpa using c2) (by kernel_rfl) (by simp [bC, eLock, eRange, eTx, frzC, iC, sC]) (by simp) (by kernel_rfl) ?_
          refine ao_some [5] [6] [4, 6, 54, 55] tyOK (st1 := mk 57 [(4, .one (.pl [(4, 0)] 0 0)), (6, .one (.pl [(6, 0)] 0 0)), (54, .one (.so [] 54 0 ((r3.held ++ ([p1] : List Lock)).length))), (55, .one (.pl [(6, 0)] 0 0))] [(4, [.bx [.sl 6 ([]), .sl 6 ([])]]), (6, [.bx [.dead, .sl 6 ((r3.wait).map eLock)]]), (54, [.sl 6 ((r3.held ++ ([p1] : List Lock)).map eLock)])]) (by kernel_rfl) ?_
          refine ao_o (ob := [(((r3.held ++ ([p1] : List Lock)).map eLock).length, (r3.held ++ ([p1] : List Lock)).length)]) (st1 := mk 57 [(4, .one (.pl [(4, 0)] 0 0)), (6, .one (.pl [(6, 0)] 0 0))] [(4, [.bx [.sl 6 ([]), .sl 6 ([])]]), (6, [.bx [.sl 6 ((r3.held ++ ([p1] : List Lock)).map eLock), .sl 6 ((r3.wait).map eLock)]])]) [4, 6] tyOK (by kernel_rfl) ⟨by simp, trivial⟩ ?_
          refine ao_nil ?_
          refine a_seq ?_
          refine a_ops [0, 1, 2] (by kernel_rfl) ?_
          refine ao_some [0] [1, 2] [4, 56] tyOK (st1 := mk 57 [(4, .one (.pl [(4, 0)] 0 0)), (56, .agg [.so [(6, 0)] 0 0 (((r3.held ++ ([p1] : List Lock)).map eLock).length), .so [(6, 0)] 0 1 (((r3.wait).map eLock).length)])] [(4, [.bx [.sl 6 ([]), .sl 6 ([])]]), (6, [.bx [.sl 6 ((r3.held ++ ([p1] : List Lock)).map eLock), .sl 6 ((r3.wait).map eLock)]])]) (by kernel_rfl) ?_
          refine ao_o (ob := [(((r3.held ++ ([p1] : List Lock)).map eLock).length, ((r3.held ++ ([p1] : List Lock)).map eLock).length), (((r3.wait).map eLock).length, ((r3.wait).map eLock).length)]) (st1 := mk 57 [(4, .one (.pl [(4, 0)] 0 0))] [(4, [.bx [.sl 6 ((r3.held ++ ([p1] : List Lock)).map eLock), .sl 6 ((r3.wait).map eLock)]])]) [4] tyOK (by kernel_rfl) ⟨by simp, by simp, trivial⟩ ?_
          refine ao_some [2] [] [4, 5] tyOK (st1 := mk 57 [(4, .one (.pl [(4, 0)] 0 0)), (5, iV 0)] [(4, [.bx [.sl 6 ((r3.held ++ ([p1] : List Lock)).map eLock), .sl 6 ((r3.wait).map eLock)]])]) (by kernel_rfl) ?_
          refine ao_nil ?_
          refine a_ret ?_
          obtain rfl := Option.some.inj h
          exact end_own (ob := [(((r3.held ++ ([p1] : List Lock)).map eLock).length, ((r3.held ++ ([p1] : List Lock)).map eLock).length), (((r3.wait).map eLock).length, ((r3.wait).map eLock).length)]) (res' := .tup [.agg [.so [] 0 0 (((r3.held ++ ([p1] : List Lock)).map eLock).length), .so [] 0 1 (((r3.wait).map eLock).length)], .one (.c (iC 0))]) (row' := [.sl 6 ((r3.held ++ ([p1] : List Lock)).map eLock), .sl 6 ((r3.wait).map eLock)]) (by kernel_rfl) ⟨by simp, by simp, trivial⟩ (by first | rfl | simp) (by first | rfl | simp)

noncomputable def i_within (p0 : Int) (p1 : Int) (p2 : Int) : Bool :=
 bif (decide (p0 ≥ p1)) then (decide (p0 ≤ p2)) else false
set_option maxHeartbeats 4000000 in
/-- impl.within -/
theorem k_i_within (p0 : Int) (p1 : Int) (p2 : Int) (v : Bool) (h : i_within p0 p1 p2 = v) : CallOK Try.prog 98 [iV p0, iV p1, iV p2] (bV v) [] :=
  callOK tyOK Try.func98 rfl fun w S hS => by
    unfold i_within at h
    refine a_seq ?_
    refine a_run [0, 1, 2] tyOK (st1 := mk 15 [(0, iV p0), (1, iV p1), (2, iV p2)] []) (by kernel_rfl) ?_
    refine a_seq ?_
    refine a_mid (mk 15 [(6, bV (bif (decide (p0 ≥ p1)) then (decide (p0 ≤ p2)) else false))] []) ?_ ?_
    · refine a_ops [0, 1, 2, 3, 4, 5, 6, 7, 8] (by kernel_rfl) ?_
      refine ao_some [0, 1, 2, 3] [4, 5, 6, 7, 8] [0, 2, 10] tyOK (st1 := mk 15 [(0, iV p0), (2, iV p2), (10, bV (decide (p0 ≥ p1)))] []) (by kernel_rfl) ?_
      rcases Bool.eq_false_or_eq_true (decide (p0 ≥ p1)) with h1 | h1
      · refine ao_says (k := 10) (t := bV (decide (p0 ≥ p1))) (t' := bV true) (st1 := mk 15 [(0, iV p0), (2, iV p2), (10, bV true)] []) (by kernel_rfl) (by rw [h1]) (by kernel_rfl) ?_
        refine ao_some [4, 5, 6, 7, 8] [] [6] tyOK (st1 := mk 15 [(6, bV (decide (p0 ≤ p2)))] []) (by kernel_rfl) ?_
        refine ao_nil ?_
        show mk 15 [(6, bV (decide (p0 ≤ p2)))] [] = mk 15 [(6, bV (bif (decide (p0 ≥ p1)) then (decide (p0 ≤ p2)) else false))] []
        first | rfl | (simp only [h1, cond_true, cond_false]) | (simp only [h1, cond_true, cond_false]; rfl)
      · refine ao_says (k := 10) (t := bV (decide (p0 ≥ p1))) (t' := bV false) (st1 := mk 15 [(0, iV p0), (2, iV p2), (10, bV false)] []) (by kernel_rfl) (by rw [h1]) (by kernel_rfl) ?_
        refine ao_some [4, 5, 6, 7, 8] [] [6] tyOK (st1 := mk 15 [(6, bV false)] []) (by kernel_rfl) ?_
        refine ao_nil ?_
        show mk 15 [(6, bV false)] [] = mk 15 [(6, bV (bif (decide (p0 ≥ p1)) then (decide (p0 ≤ p2)) else false))] []
        first | rfl | (simp only [h1, cond_true, cond_false]) | (simp only [h1, cond_true, cond_false]; rfl)
    refine a_ret ?_
    obtain rfl := h
    exact end_eq (res' := bV (bif (decide (p0 ≥ p1)) then (decide (p0 ≤ p2)) else false)) (by kernel_rfl) (by first | rfl | simp)

end Go.Proofs.Ytijmnochaamllaa
namespace Go.Proofs.Ytijmnochaamllaa
open Go.Mv Go.RowKit
noncomputable def i_TxOk (p0 : Tx) : Bool :=
 bif (i_within p0.c 0 7) then (bif (i_within p0.e 1 999) then (i_within p0.n 1 999) else false) else false
set_option maxHeartbeats 4000000 in
/-- impl.TxOk -/
theorem k_i_TxOk (p0 : Tx) (v : Bool) (h : i_TxOk p0 = v) : CallOK Try.prog 85 [.agg [.c (iC p0.c), .c (iC p0.e), .c (iC p0.n)]] (bV v) [] :=
  callOK tyOK Try.func85 rfl fun w S hS => by
    unfold i_TxOk at h
    refine a_seq ?_
    refine a_run [1] tyOK (st1 := mk 16 [(1, .one (.pl [(1, 0)] 0 0))] [(1, [.bx [iC p0.c, iC p0.e, iC p0.n]])]) (by kernel_rfl) ?_
    refine a_seq ?_
    refine a_mid (mk 16 [(2, bV (bif (i_within p0.c 0 7) then (bif (i_within p0.e 1 999) then (i_within p0.n 1 999) else false) else false))] []) ?_ ?_
    · refine a_ops [0, 1, 2, 3, 4, 5, 6, 7, 8, 9, 10, 11, 12, 13] (by kernel_rfl) ?_
      refine ao_some [0, 1] [2, 3, 4, 5, 6, 7, 8, 9, 10, 11, 12, 13] [1, 4] tyOK (st1 := mk 16 [(1, .one (.pl [(1, 0)] 0 0)), (4, iV p0.c)] [(1, [.bx [iC p0.c, iC p0.e, iC p0.n]])]) (by kernel_rfl) ?_
      refine ao_enter (f := 98) (d := 5) (A := [iV p0.c, iV 0, iV 7]) (st1 := mk 16 [(1, .one (.pl [(1, 0)] 0 0)), (5, bV (i_within p0.c 0 7))] [(1, [.bx [iC p0.c, iC p0.e, iC p0.n]])]) [1, 5] (k_i_within p0.c 0 7 _ rfl) Try.call98 (by kernel_rfl) (by kernel_rfl) (by kernel_rfl) ?_
      refine ao_some [3] [4, 5, 6, 7, 8, 9, 10, 11, 12, 13] [1, 6] tyOK (st1 := mk 16 [(1, .one (.pl [(1, 0)] 0 0)), (6, bV (i_within p0.c 0 7))] [(1, [.bx [iC p0.c, iC p0.e, iC p0.n]])]) (by kernel_rfl) ?_
      rcases Bool.eq_false_or_eq_true (i_within p0.c 0 7) with h1 | h1
      · refine ao_says (k := 6) (t := bV (i_within p0.c 0 7)) (t' := bV true) (st1 := mk 16 [(1, .one (.pl [(1, 0)] 0 0)), (6, bV true)] [(1, [.bx [iC p0.c, iC p0.e, iC p0.n]])]) (by kernel_rfl) (by rw [h1]) (by kernel_rfl) ?_
        refine ao_some [4, 5] [6, 7, 8, 9, 10, 11, 12, 13] [1, 6, 8] tyOK (st1 := mk 16 [(1, .one (.pl [(1, 0)] 0 0)), (6, bV true), (8, iV p0.e)] [(1, [.bx [iC p0.c, iC p0.e, iC p0.n]])]) (by kernel_rfl) ?_
        refine ao_enter (f := 98) (d := 9) (A := [iV p0.e, iV 1, iV 999]) (st1 := mk 16 [(1, .one (.pl [(1, 0)] 0 0)), (6, bV true), (9, bV (i_within p0.e 1 999))] [(1, [.bx [iC p0.c, iC p0.e, iC p0.n]])]) [1, 6, 9] (k_i_within p0.e 1 999 _ rfl) Try.call98 (by kernel_rfl) (by kernel_rfl) (by kernel_rfl) ?_
        refine ao_some [7, 8] [9, 10, 11, 12, 13] [1, 11] tyOK (st1 := mk 16 [(1, .one (.pl [(1, 0)] 0 0)), (11, bV (i_within p0.e 1 999))] [(1, [.bx [iC p0.c, iC p0.e, iC p0.n]])]) (by kernel_rfl) ?_
        rcases Bool.eq_false_or_eq_true (i_within p0.e 1 999) with h2 | h2
        · refine ao_says (k := 11) (t := bV (i_within p0.e 1 999)) (t' := bV true) (st1 := mk 16 [(1, .one (.pl [(1, 0)] 0 0)), (11, bV true)] [(1, [.bx [iC p0.c, iC p0.e, iC p0.n]])]) (by kernel_rfl) (by rw [h2]) (by kernel_rfl) ?_
          refine ao_some [9, 10] [11, 12, 13] [11, 13] tyOK (st1 := mk 16 [(11, bV true), (13, iV p0.n)] []) (by kernel_rfl) ?_
          refine ao_enter (f := 98) (d := 14) (A := [iV p0.n, iV 1, iV 999]) (st1 := mk 16 [(11, bV true), (14, bV (i_within p0.n 1 999))] []) [11, 14] (k_i_within p0.n 1 999 _ rfl) Try.call98 (by kernel_rfl) (by kernel_rfl) (by kernel_rfl) ?_
          refine ao_some [12, 13] [] [2] tyOK (st1 := mk 16 [(2, bV (i_within p0.n 1 999))] []) (by kernel_rfl) ?_
          refine ao_nil ?_
          show mk 16 [(2, bV (i_within p0.n 1 999))] [] = mk 16 [(2, bV (bif (i_within p0.c 0 7) then (bif (i_within p0.e 1 999) then (i_within p0.n 1 999) else false) else false))] []
          first | rfl | (simp only [h1, h2, cond_true, cond_false]) | (simp only [h1, h2, cond_true, cond_false]; rfl)
        · refine ao_says (k := 11) (t := bV (i_within p0.e 1 999)) (t' := bV false) (st1 := mk 16 [(1, .one (.pl [(1, 0)] 0 0)), (11, bV false)] [(1, [.bx [iC p0.c, iC p0.e, iC p0.n]])]) (by kernel_rfl) (by rw [h2]) (by kernel_rfl) ?_
          refine ao_some [9, 10, 11, 12, 13] [] [2] tyOK (st1 := mk 16 [(2, bV false)] []) (by kernel_rfl) ?_
          refine ao_nil ?_
          show mk 16 [(2, bV false)] [] = mk 16 [(2, bV (bif (i_within p0.c 0 7) then (bif (i_within p0.e 1 999) then (i_within p0.n 1 999) else false) else false))] []
          first | rfl | (simp only [h1, h2, cond_true, cond_false]) | (simp only [h1, h2, cond_true, cond_false]; rfl)
      · refine ao_says (k := 6) (t := bV (i_within p0.c 0 7)) (t' := bV false) (st1 := mk 16 [(1, .one (.pl [(1, 0)] 0 0)), (6, bV false)] [(1, [.bx [iC p0.c, iC p0.e, iC p0.n]])]) (by kernel_rfl) (by rw [h1]) (by kernel_rfl) ?_
        refine ao_some [4, 5, 6, 7, 8, 9, 10, 11, 12, 13] [] [2] tyOK (st1 := mk 16 [(2, bV false)] []) (by kernel_rfl) ?_
        refine ao_nil ?_
        show mk 16 [(2, bV false)] [] = mk 16 [(2, bV (bif (i_within p0.c 0 7) then (bif (i_within p0.e 1 999) then (i_within p0.n 1 999) else false) else false))] []
        first | rfl | (simp only [h1, cond_true, cond_false]) | (simp only [h1, cond_true, cond_false]; rfl)
    refine a_ret ?_
    obtain rfl := h
    exact end_eq (res' := bV (bif (i_within p0.c 0 7) then (bif (i_within p0.e 1 999) then (i_within p0.n 1 999) else false) else false)) (by kernel_rfl) (by first | rfl | simp)

noncomputable def i_RangeOk (p0 : Range) : Bool :=
 bif (decide (((p0.lo.size : Int)) ≤ 17)) then (bif (decide (((p0.hi.size : Int)) ≤ 17)) then (bif ((p0.hi.toList == ((⟨#[]⟩ : ByteArray)).toList)) then true else (!(Op.bytesLess p0.hi.toList p0.lo.toList || p0.hi.toList == p0.lo.toList))) else false) else false
set_option maxHeartbeats 4000000 in
/-- impl.RangeOk -/
theorem k_i_RangeOk (p0 : Range) (v : Bool) (h : i_RangeOk p0 = v) : CallOK Try.prog 93 [.agg [.c (sC p0.lo), .c (sC p0.hi)]] (bV v) [] :=
  callOK tyOK Try.func93 rfl fun w S hS => by
    unfold i_RangeOk at h
    refine a_seq ?_
    refine a_run [1] tyOK (st1 := mk 25 [(1, .one (.pl [(1, 0)] 0 0))] [(1, [.bx [sC p0.lo, sC p0.hi]])]) (by kernel_rfl) ?_
    refine a_seq ?_
    refine a_mid (mk 25 [(2, bV (bif (decide (((p0.lo.size : Int)) ≤ 17)) then (bif (decide (((p0.hi.size : Int)) ≤ 17)) then (bif ((p0.hi.toList == ((⟨#[]⟩ : ByteArray)).toList)) then true else (!(Op.bytesLess p0.hi.toList p0.lo.toList || p0.hi.toList == p0.lo.toList))) else false) else false))] []) ?_ ?_
    · refine a_ops [0, 1, 2, 3, 4, 5, 6, 7, 8, 9, 10, 11, 12, 13, 14, 15, 16, 17, 18, 19, 20, 21, 22] (by kernel_rfl) ?_
      refine ao_some [0, 1, 2, 3, 4] [5, 6, 7, 8, 9, 10, 11, 12, 13, 14, 15, 16, 17, 18, 19, 20, 21, 22] [1, 7] tyOK (st1 := mk 25 [(1, .one (.pl [(1, 0)] 0 0)), (7, bV (decide (((p0.lo.size : Int)) ≤ 17)))] [(1, [.bx [sC p0.lo, sC p0.hi]])]) (by kernel_rfl) ?_
      rcases Bool.eq_false_or_eq_true (decide (((p0.lo.size : Int)) ≤ 17)) with h1 | h1
      · refine ao_says (k := 7) (t := bV (decide (((p0.lo.size : Int)) ≤ 17))) (t' := bV true) (st1 := mk 25 [(1, .one (.pl [(1, 0)] 0 0)), (7, bV true)] [(1, [.bx [sC p0.lo, sC p0.hi]])]) (by kernel_rfl) (by rw [h1]) (by kernel_rfl) ?_
        refine ao_some [5, 6, 7, 8, 9, 10] [11, 12, 13, 14, 15, 16, 17, 18, 19, 20, 21, 22] [1, 13] tyOK (st1 := mk 25 [(1, .one (.pl [(1, 0)] 0 0)), (13, bV (decide (((p0.hi.size : Int)) ≤ 17)))] [(1, [.bx [sC p0.lo, sC p0.hi]])]) (by kernel_rfl) ?_
        rcases Bool.eq_false_or_eq_true (decide (((p0.hi.size : Int)) ≤ 17)) with h2 | h2
        · refine ao_says (k := 13) (t := bV (decide (((p0.hi.size : Int)) ≤ 17))) (t' := bV true) (st1 := mk 25 [(1, .one (.pl [(1, 0)] 0 0)), (13, bV true)] [(1, [.bx [sC p0.lo, sC p0.hi]])]) (by kernel_rfl) (by rw [h2]) (by kernel_rfl) ?_
          refine ao_some [11, 12, 13, 14] [15, 16, 17, 18, 19, 20, 21, 22] [1, 13, 17] tyOK (st1 := mk 25 [(1, .one (.pl [(1, 0)] 0 0)), (13, bV true), (17, bV ((p0.hi.toList == ((⟨#[]⟩ : ByteArray)).toList)))] [(1, [.bx [sC p0.lo, sC p0.hi]])]) (by kernel_rfl) ?_
          rcases Bool.eq_false_or_eq_true ((p0.hi.toList == ((⟨#[]⟩ : ByteArray)).toList)) with h3 | h3
          · refine ao_says (k := 17) (t := bV ((p0.hi.toList == ((⟨#[]⟩ : ByteArray)).toList))) (t' := bV true) (st1 := mk 25 [(1, .one (.pl [(1, 0)] 0 0)), (13, bV true), (17, bV true)] [(1, [.bx [sC p0.lo, sC p0.hi]])]) (by kernel_rfl) (by rw [h3]) (by kernel_rfl) ?_
            refine ao_some [15, 16, 17, 18, 19, 20, 21, 22] [] [2] tyOK (st1 := mk 25 [(2, bV true)] []) (by kernel_rfl) ?_
            refine ao_nil ?_
            show mk 25 [(2, bV true)] [] = mk 25 [(2, bV (bif (decide (((p0.lo.size : Int)) ≤ 17)) then (bif (decide (((p0.hi.size : Int)) ≤ 17)) then (bif ((p0.hi.toList == ((⟨#[]⟩ : ByteArray)).toList)) then true else (!(Op.bytesLess p0.hi.toList p0.lo.toList || p0.hi.toList == p0.lo.toList))) else false) else false))] []
            first | rfl | (simp only [h1, h2, h3, cond_true, cond_false]) | (simp only [h1, h2, h3, cond_true, cond_false]; rfl)
          · refine ao_says (k := 17) (t := bV ((p0.hi.toList == ((⟨#[]⟩ : ByteArray)).toList))) (t' := bV false) (st1 := mk 25 [(1, .one (.pl [(1, 0)] 0 0)), (13, bV true), (17, bV false)] [(1, [.bx [sC p0.lo, sC p0.hi]])]) (by kernel_rfl) (by rw [h3]) (by kernel_rfl) ?_
            refine ao_some [15, 16, 17, 18, 19, 20, 21, 22] [] [2] tyOK (st1 := mk 25 [(2, bV (!(Op.bytesLess p0.hi.toList p0.lo.toList || p0.hi.toList == p0.lo.toList)))] []) (by kernel_rfl) ?_
            refine ao_nil ?_
            show mk 25 [(2, bV (!(Op.bytesLess p0.hi.toList p0.lo.toList || p0.hi.toList == p0.lo.toList)))] [] = mk 25 [(2, bV (bif (decide (((p0.lo.size : Int)) ≤ 17)) then (bif (decide (((p0.hi.size : Int)) ≤ 17)) then (bif ((p0.hi.toList == ((⟨#[]⟩ : ByteArray)).toList)) then true else (!(Op.bytesLess p0.hi.toList p0.lo.toList || p0.hi.toList == p0.lo.toList))) else false) else false))] []
            first | rfl | (simp only [h1, h2, h3, cond_true, cond_false]) | (simp only [h1, h2, h3, cond_true, cond_false]; rfl)
        · refine ao_says (k := 13) (t := bV (decide (((p0.hi.size : Int)) ≤ 17))) (t' := bV false) (st1 := mk 25 [(1, .one (.pl [(1, 0)] 0 0)), (13, bV false)] [(1, [.bx [sC p0.lo, sC p0.hi]])]) (by kernel_rfl) (by rw [h2]) (by kernel_rfl) ?_
          refine ao_some [11, 12, 13, 14, 15, 16, 17, 18, 19, 20, 21, 22] [] [2] tyOK (st1 := mk 25 [(2, bV false)] []) (by kernel_rfl) ?_
          refine ao_nil ?_
          show mk 25 [(2, bV false)] [] = mk 25 [(2, bV (bif (decide (((p0.lo.size : Int)) ≤ 17)) then (bif (decide (((p0.hi.size : Int)) ≤ 17)) then (bif ((p0.hi.toList == ((⟨#[]⟩ : ByteArray)).toList)) then true else (!(Op.bytesLess p0.hi.toList p0.lo.toList || p0.hi.toList == p0.lo.toList))) else false) else false))] []
          first | rfl | (simp only [h1, h2, cond_true, cond_false]) | (simp only [h1, h2, cond_true, cond_false]; rfl)
      · refine ao_says (k := 7) (t := bV (decide (((p0.lo.size : Int)) ≤ 17))) (t' := bV false) (st1 := mk 25 [(1, .one (.pl [(1, 0)] 0 0)), (7, bV false)] [(1, [.bx [sC p0.lo, sC p0.hi]])]) (by kernel_rfl) (by rw [h1]) (by kernel_rfl) ?_
        refine ao_some [5, 6, 7, 8, 9, 10, 11, 12, 13, 14, 15, 16, 17, 18, 19, 20, 21, 22] [] [2] tyOK (st1 := mk 25 [(2, bV false)] []) (by kernel_rfl) ?_
        refine ao_nil ?_
        show mk 25 [(2, bV false)] [] = mk 25 [(2, bV (bif (decide (((p0.lo.size : Int)) ≤ 17)) then (bif (decide (((p0.hi.size : Int)) ≤ 17)) then (bif ((p0.hi.toList == ((⟨#[]⟩ : ByteArray)).toList)) then true else (!(Op.bytesLess p0.hi.toList p0.lo.toList || p0.hi.toList == p0.lo.toList))) else false) else false))] []
        first | rfl | (simp only [h1, cond_true, cond_false]) | (simp only [h1, cond_true, cond_false]; rfl)
    refine a_ret ?_
    obtain rfl := h
    exact end_eq (res' := bV (bif (decide (((p0.lo.size : Int)) ≤ 17)) then (bif (decide (((p0.hi.size : Int)) ≤ 17)) then (bif ((p0.hi.toList == ((⟨#[]⟩ : ByteArray)).toList)) then true else (!(Op.bytesLess p0.hi.toList p0.lo.toList || p0.hi.toList == p0.lo.toList))) else false) else false)) (by kernel_rfl) (by first | rfl | simp)

noncomputable def i_lockOk (p0 : Lock) : Bool :=
 bif (i_TxOk p0.tx) then (i_RangeOk p0.range) else false
set_option maxHeartbeats 4000000 in
/-- impl.lockOk -/
theorem k_i_lockOk (p0 : Lock) (v : Bool) (h : i_lockOk p0 = v) : CallOK Try.prog 68 [.agg [.c (iC p0.tx.c), .c (iC p0.tx.e), .c (iC p0.tx.n), .c (sC p0.range.lo), .c (sC p0.range.hi), .c (bC p0.ex)]] (bV v) [] :=
  callOK tyOK Try.func68 rfl fun w S hS => by
    unfold i_lockOk at h
    refine a_seq ?_
    refine a_run [1] tyOK (st1 := mk 11 [(1, .one (.pl [(1, 0)] 0 0))] [(1, [.bx [iC p0.tx.c, iC p0.tx.e, iC p0.tx.n, sC p0.range.lo, sC p0.range.hi, bC p0.ex]])]) (by kernel_rfl) ?_
    refine a_seq ?_
    refine a_mid (mk 11 [(2, bV (bif (i_TxOk p0.tx) then (i_RangeOk p0.range) else false))] []) ?_ ?_
    · refine a_ops [0, 1, 2, 3, 4, 5, 6, 7, 8] (by kernel_rfl) ?_
      refine ao_some [0, 1] [2, 3, 4, 5, 6, 7, 8] [1, 4] tyOK (st1 := mk 11 [(1, .one (.pl [(1, 0)] 0 0)), (4, .agg [.c (iC p0.tx.c), .c (iC p0.tx.e), .c (iC p0.tx.n)])] [(1, [.bx [iC p0.tx.c, iC p0.tx.e, iC p0.tx.n, sC p0.range.lo, sC p0.range.hi, bC p0.ex]])]) (by kernel_rfl) ?_
      refine ao_enter (f := 85) (d := 5) (A := [.agg [.c (iC p0.tx.c), .c (iC p0.tx.e), .c (iC p0.tx.n)]]) (st1 := mk 11 [(1, .one (.pl [(1, 0)] 0 0)), (5, bV (i_TxOk p0.tx))] [(1, [.bx [iC p0.tx.c, iC p0.tx.e, iC p0.tx.n, sC p0.range.lo, sC p0.range.hi, bC p0.ex]])]) [1, 5] (k_i_TxOk p0.tx _ rfl) Try.call85 (by kernel_rfl) (by kernel_rfl) (by kernel_rfl) ?_
      refine ao_some [3] [4, 5, 6, 7, 8] [1, 6] tyOK (st1 := mk 11 [(1, .one (.pl [(1, 0)] 0 0)), (6, bV (i_TxOk p0.tx))] [(1, [.bx [iC p0.tx.c, iC p0.tx.e, iC p0.tx.n, sC p0.range.lo, sC p0.range.hi, bC p0.ex]])]) (by kernel_rfl) ?_
      rcases Bool.eq_false_or_eq_true (i_TxOk p0.tx) with h1 | h1
      · refine ao_says (k := 6) (t := bV (i_TxOk p0.tx)) (t' := bV true) (st1 := mk 11 [(1, .one (.pl [(1, 0)] 0 0)), (6, bV true)] [(1, [.bx [iC p0.tx.c, iC p0.tx.e, iC p0.tx.n, sC p0.range.lo, sC p0.range.hi, bC p0.ex]])]) (by kernel_rfl) (by rw [h1]) (by kernel_rfl) ?_
        refine ao_some [4, 5] [6, 7, 8] [6, 8] tyOK (st1 := mk 11 [(6, bV true), (8, .agg [.c (sC p0.range.lo), .c (sC p0.range.hi)])] []) (by kernel_rfl) ?_
        refine ao_enter (f := 93) (d := 9) (A := [.agg [.c (sC p0.range.lo), .c (sC p0.range.hi)]]) (st1 := mk 11 [(6, bV true), (9, bV (i_RangeOk p0.range))] []) [6, 9] (k_i_RangeOk p0.range _ rfl) Try.call93 (by kernel_rfl) (by kernel_rfl) (by kernel_rfl) ?_
        refine ao_some [7, 8] [] [2] tyOK (st1 := mk 11 [(2, bV (i_RangeOk p0.range))] []) (by kernel_rfl) ?_
        refine ao_nil ?_
        show mk 11 [(2, bV (i_RangeOk p0.range))] [] = mk 11 [(2, bV (bif (i_TxOk p0.tx) then (i_RangeOk p0.range) else false))] []
        first | rfl | (simp only [h1, cond_true, cond_false]) | (simp only [h1, cond_true, cond_false]; rfl)
      · refine ao_says (k := 6) (t := bV (i_TxOk p0.tx)) (t' := bV false) (st1 := mk 11 [(1, .one (.pl [(1, 0)] 0 0)), (6, bV false)] [(1, [.bx [iC p0.tx.c, iC p0.tx.e, iC p0.tx.n, sC p0.range.lo, sC p0.range.hi, bC p0.ex]])]) (by kernel_rfl) (by rw [h1]) (by kernel_rfl) ?_
        refine ao_some [4, 5, 6, 7, 8] [] [2] tyOK (st1 := mk 11 [(2, bV false)] []) (by kernel_rfl) ?_
        refine ao_nil ?_
        show mk 11 [(2, bV false)] [] = mk 11 [(2, bV (bif (i_TxOk p0.tx) then (i_RangeOk p0.range) else false))] []
        first | rfl | (simp only [h1, cond_true, cond_false]) | (simp only [h1, cond_true, cond_false]; rfl)
    refine a_ret ?_
    obtain rfl := h
    exact end_eq (res' := bV (bif (i_TxOk p0.tx) then (i_RangeOk p0.range) else false)) (by kernel_rfl) (by first | rfl | simp)

noncomputable def i_RangeBoth (p0 : Range) (p1 : Range) : Option (Range × Bool) :=
 bif (bif (!(i_RangeOk p0)) then true else (!(i_RangeOk p1))) then
 (some (((⟨(⟨#[]⟩ : ByteArray), (⟨#[]⟩ : ByteArray)⟩ : Range), false)))
 else
 (bnd (bif (bif ((p0.hi.toList == ((⟨#[]⟩ : ByteArray)).toList)) then true else (bif (!(p1.hi.toList == ((⟨#[]⟩ : ByteArray)).toList)) then (Op.bytesLess p1.hi.toList p0.hi.toList) else false)) then
 (some p1.hi)
 else
 (some p0.hi)) fun j1 =>
 bif (!(i_RangeOk ((⟨maxS p0.lo p1.lo, j1⟩ : Range)))) then
 (some (((⟨(⟨#[]⟩ : ByteArray), (⟨#[]⟩ : ByteArray)⟩ : Range), false)))
 else
 (some (((⟨maxS p0.lo p1.lo, j1⟩ : Range), true))))
set_option maxHeartbeats 4000000 in
/-- impl.RangeBoth -/
theorem k_i_RangeBoth (p0 : Range) (p1 : Range) (v : Range × Bool) (h : i_RangeBoth p0 p1 = some v) : CallOK Try.prog 117 [.agg [.c (sC p0.lo), .c (sC p0.hi)], .agg [.c (sC p1.lo), .c (sC p1.hi)]] (.tup [.agg [.c (sC v.1.lo), .c (sC v.1.hi)], .one (.c (bC v.2))]) [] :=
  callOK tyOK Try.func117 rfl fun w S hS => by
    unfold i_RangeBoth at h
    refine a_seq ?_
    refine a_run [2, 3, 4] tyOK (st1 := mk 47 [(2, .one (.pl [(2, 0)] 0 0)), (3, .one (.pl [(3, 0)] 0 0)), (4, .one (.pl [(4, 0)] 0 0))] [(2, [.bx [sC p0.lo, sC p0.hi]]), (3, [.bx [sC p1.lo, sC p1.hi]]), (4, [.bx [sC ((⟨#[]⟩ : ByteArray)), sC ((⟨#[]⟩ : ByteArray))]])]) (by kernel_rfl) ?_
    refine a_seq ?_
    refine a_seq ?_
    refine a_mid (mk 47 [(2, .one (.pl [(2, 0)] 0 0)), (3, .one (.pl [(3, 0)] 0 0)), (4, .one (.pl [(4, 0)] 0 0)), (14, bV (bif (!(i_RangeOk p0)) then true else (!(i_RangeOk p1))))] [(2, [.bx [sC p0.lo, sC p0.hi]]), (3, [.bx [sC p1.lo, sC p1.hi]]), (4, [.bx [sC ((⟨#[]⟩ : ByteArray)), sC ((⟨#[]⟩ : ByteArray))]])]) ?_ ?_
    · refine a_ops [0, 1, 2, 3, 4, 5, 6, 7] (by kernel_rfl) ?_
      refine ao_some [0] [1, 2, 3, 4, 5, 6, 7] [2, 3, 4, 7] tyOK (st1 := mk 47 [(2, .one (.pl [(2, 0)] 0 0)), (3, .one (.pl [(3, 0)] 0 0)), (4, .one (.pl [(4, 0)] 0 0)), (7, .agg [.c (sC p0.lo), .c (sC p0.hi)])] [(2, [.bx [sC p0.lo, sC p0.hi]]), (3, [.bx [sC p1.lo, sC p1.hi]]), (4, [.bx [sC ((⟨#[]⟩ : ByteArray)), sC ((⟨#[]⟩ : ByteArray))]])]) (by kernel_rfl) ?_
      refine ao_enter (f := 93) (d := 8) (A := [.agg [.c (sC p0.lo), .c (sC p0.hi)]]) (st1 := mk 47 [(2, .one (.pl [(2, 0)] 0 0)), (3, .one (.pl [(3, 0)] 0 0)), (4, .one (.pl [(4, 0)] 0 0)), (8, bV (i_RangeOk p0))] [(2, [.bx [sC p0.lo, sC p0.hi]]), (3, [.bx [sC p1.lo, sC p1.hi]]), (4, [.bx [sC ((⟨#[]⟩ : ByteArray)), sC ((⟨#[]⟩ : ByteArray))]])]) [2, 3, 4, 8] (k_i_RangeOk p0 _ rfl) Try.call93 (by kernel_rfl) (by kernel_rfl) (by kernel_rfl) ?_
      refine ao_some [2, 3] [4, 5, 6, 7] [2, 3, 4, 10] tyOK (st1 := mk 47 [(2, .one (.pl [(2, 0)] 0 0)), (3, .one (.pl [(3, 0)] 0 0)), (4, .one (.pl [(4, 0)] 0 0)), (10, bV (!(i_RangeOk p0)))] [(2, [.bx [sC p0.lo, sC p0.hi]]), (3, [.bx [sC p1.lo, sC p1.hi]]), (4, [.bx [sC ((⟨#[]⟩ : ByteArray)), sC ((⟨#[]⟩ : ByteArray))]])]) (by kernel_rfl) ?_
      rcases Bool.eq_false_or_eq_true (!(i_RangeOk p0)) with h1 | h1
      · refine ao_says (k := 10) (t := bV (!(i_RangeOk p0))) (t' := bV true) (st1 := mk 47 [(2, .one (.pl [(2, 0)] 0 0)), (3, .one (.pl [(3, 0)] 0 0)), (4, .one (.pl [(4, 0)] 0 0)), (10, bV true)] [(2, [.bx [sC p0.lo, sC p0.hi]]), (3, [.bx [sC p1.lo, sC p1.hi]]), (4, [.bx [sC ((⟨#[]⟩ : ByteArray)), sC ((⟨#[]⟩ : ByteArray))]])]) (by kernel_rfl) (by rw [h1]) (by kernel_rfl) ?_
        refine ao_some [4, 5, 6, 7] [] [2, 3, 4, 14] tyOK (st1 := mk 47 [(2, .one (.pl [(2, 0)] 0 0)), (3, .one (.pl [(3, 0)] 0 0)), (4, .one (.pl [(4, 0)] 0 0)), (14, bV true)] [(2, [.bx [sC p0.lo, sC p0.hi]]), (3, [.bx [sC p1.lo, sC p1.hi]]), (4, [.bx [sC ((⟨#[]⟩ : ByteArray)), sC ((⟨#[]⟩ : ByteArray))]])]) (by kernel_rfl) ?_
        refine ao_nil ?_
        show mk 47 [(2, .one (.pl [(2, 0)] 0 0)), (3, .one (.pl [(3, 0)] 0 0)), (4, .one (.pl [(4, 0)] 0 0)), (14, bV true)] [(2, [.bx [sC p0.lo, sC p0.hi]]), (3, [.bx [sC p1.lo, sC p1.hi]]), (4, [.bx [sC ((⟨#[]⟩ : ByteArray)), sC ((⟨#[]⟩ : ByteArray))]])] = mk 47 [(2, .one (.pl [(2, 0)] 0 0)), (3, .one (.pl [(3, 0)] 0 0)), (4, .one (.pl [(4, 0)] 0 0)), (14, bV (bif (!(i_RangeOk p0)) then true else (!(i_RangeOk p1))))] [(2, [.bx [sC p0.lo, sC p0.hi]]), (3, [.bx [sC p1.lo, sC p1.hi]]), (4, [.bx [sC ((⟨#[]⟩ : ByteArray)), sC ((⟨#[]⟩ : ByteArray))]])]
        first | rfl | (simp only [h1, cond_true, cond_false]) | (simp only [h1, cond_true, cond_false]; rfl)
      · refine ao_says (k := 10) (t := bV (!(i_RangeOk p0))) (t' := bV false) (st1 := mk 47 [(2, .one (.pl [(2, 0)] 0 0)), (3, .one (.pl [(3, 0)] 0 0)), (4, .one (.pl [(4, 0)] 0 0)), (10, bV false)] [(2, [.bx [sC p0.lo, sC p0.hi]]), (3, [.bx [sC p1.lo, sC p1.hi]]), (4, [.bx [sC ((⟨#[]⟩ : ByteArray)), sC ((⟨#[]⟩ : ByteArray))]])]) (by kernel_rfl) (by rw [h1]) (by kernel_rfl) ?_
        refine ao_some [4] [5, 6, 7] [2, 3, 4, 10, 11] tyOK (st1 := mk 47 [(2, .one (.pl [(2, 0)] 0 0)), (3, .one (.pl [(3, 0)] 0 0)), (4, .one (.pl [(4, 0)] 0 0)), (10, bV false), (11, .agg [.c (sC p1.lo), .c (sC p1.hi)])] [(2, [.bx [sC p0.lo, sC p0.hi]]), (3, [.bx [sC p1.lo, sC p1.hi]]), (4, [.bx [sC ((⟨#[]⟩ : ByteArray)), sC ((⟨#[]⟩ : ByteArray))]])]) (by kernel_rfl) ?_
        refine ao_enter (f := 93) (d := 12) (A := [.agg [.c (sC p1.lo), .c (sC p1.hi)]]) (st1 := mk 47 [(2, .one (.pl [(2, 0)] 0 0)), (3, .one (.pl [(3, 0)] 0 0)), (4, .one (.pl [(4, 0)] 0 0)), (10, bV false), (12, bV (i_RangeOk p1))] [(2, [.bx [sC p0.lo, sC p0.hi]]), (3, [.bx [sC p1.lo, sC p1.hi]]), (4, [.bx [sC ((⟨#[]⟩ : ByteArray)), sC ((⟨#[]⟩ : ByteArray))]])]) [2, 3, 4, 10, 12] (k_i_RangeOk p1 _ rfl) Try.call93 (by kernel_rfl) (by kernel_rfl) (by kernel_rfl) ?_
        refine ao_some [6, 7] [] [2, 3, 4, 14] tyOK (st1 := mk 47 [(2, .one (.pl [(2, 0)] 0 0)), (3, .one (.pl [(3, 0)] 0 0)), (4, .one (.pl [(4, 0)] 0 0)), (14, bV (!(i_RangeOk p1)))] [(2, [.bx [sC p0.lo, sC p0.hi]]), (3, [.bx [sC p1.lo, sC p1.hi]]), (4, [.bx [sC ((⟨#[]⟩ : ByteArray)), sC ((⟨#[]⟩ : ByteArray))]])]) (by kernel_rfl) ?_
        refine ao_nil ?_
        show mk 47 [(2, .one (.pl [(2, 0)] 0 0)), (3, .one (.pl [(3, 0)] 0 0)), (4, .one (.pl [(4, 0)] 0 0)), (14, bV (!(i_RangeOk p1)))] [(2, [.bx [sC p0.lo, sC p0.hi]]), (3, [.bx [sC p1.lo, sC p1.hi]]), (4, [.bx [sC ((⟨#[]⟩ : ByteArray)), sC ((⟨#[]⟩ : ByteArray))]])] = mk 47 [(2, .one (.pl [(2, 0)] 0 0)), (3, .one (.pl [(3, 0)] 0 0)), (4, .one (.pl [(4, 0)] 0 0)), (14, bV (bif (!(i_RangeOk p0)) then true else (!(i_RangeOk p1))))] [(2, [.bx [sC p0.lo, sC p0.hi]]), (3, [.bx [sC p1.lo, sC p1.hi]]), (4, [.bx [sC ((⟨#[]⟩ : ByteArray)), sC ((⟨#[]⟩ : ByteArray))]])]
        first | rfl | (simp only [h1, cond_true, cond_false]) | (simp only [h1, cond_true, cond_false]; rfl)
    refine a_cond (b := bif (!(i_RangeOk p0)) then true else (!(i_RangeOk p1))) (by kernel_rfl) (fun h1 => ?_) (fun h1 => ?_)
    · replace h := cT h1 h
      refine a_seq ?_
      refine a_run [4, 5] tyOK (st1 := mk 47 [(4, .one (.pl [(4, 0)] 0 0)), (5, bV false)] [(4, [.bx [sC ((⟨#[]⟩ : ByteArray)), sC ((⟨#[]⟩ : ByteArray))]])]) (by kernel_rfl) ?_
      refine a_ret ?_
      obtain rfl := Option.some.inj h
      exact end_eq (res' := .tup [.agg [.c (sC ((⟨#[]⟩ : ByteArray))), .c (sC ((⟨#[]⟩ : ByteArray)))], .one (.c (bC false))]) (by kernel_rfl) (by first | rfl | simp)
    · replace h := cF h1 h
      refine a_skip ?_
      refine a_seq ?_
      refine a_ops [0, 1, 2, 3, 4, 5, 6, 7, 8, 9] (by kernel_rfl) ?_
      refine ao_some [0, 1, 2, 3] [4, 5, 6, 7, 8, 9] [2, 3, 4, 17, 19] tyOK (st1 := mk 47 [(2, .one (.pl [(2, 0)] 0 0)), (3, .one (.pl [(3, 0)] 0 0)), (4, .one (.pl [(4, 0)] 0 0)), (17, sV p0.lo), (19, sV p1.lo)] [(2, [.bx [sC p0.lo, sC p0.hi]]), (3, [.bx [sC p1.lo, sC p1.hi]]), (4, [.bx [sC ((⟨#[]⟩ : ByteArray)), sC ((⟨#[]⟩ : ByteArray))]])]) (by kernel_rfl) ?_
      refine ao_max (d := 20) (s := p0.lo) (t := p1.lo) (st1 := mk 47 [(2, .one (.pl [(2, 0)] 0 0)), (3, .one (.pl [(3, 0)] 0 0)), (4, .one (.pl [(4, 0)] 0 0)), (20, sV (maxS p0.lo p1.lo))] [(2, [.bx [sC p0.lo, sC p0.hi]]), (3, [.bx [sC p1.lo, sC p1.hi]]), (4, [.bx [sC ((⟨#[]⟩ : ByteArray)), sC ((⟨#[]⟩ : ByteArray))]])]) [2, 3, 4, 20] (by kernel_rfl) (by kernel_rfl) ?_
      refine ao_some [5, 6, 7, 8, 9] [] [2, 3, 4, 6] tyOK (st1 := mk 47 [(2, .one (.pl [(2, 0)] 0 0)), (3, .one (.pl [(3, 0)] 0 0)), (4, .one (.pl [(4, 0)] 0 0)), (6, .one (.pl [(6, 0)] 0 0))] [(2, [.bx [sC p0.lo, sC p0.hi]]), (3, [.bx [sC p1.lo, sC p1.hi]]), (4, [.bx [sC ((⟨#[]⟩ : ByteArray)), sC ((⟨#[]⟩ : ByteArray))]]), (6, [.bx [sC (maxS p0.lo p1.lo), sC p0.hi]])]) (by kernel_rfl) ?_
      refine ao_nil ?_
      refine a_seq ?_
      refine a_seq ?_
      refine a_mid (mk 47 [(3, .one (.pl [(3, 0)] 0 0)), (4, .one (.pl [(4, 0)] 0 0)), (6, .one (.pl [(6, 0)] 0 0)), (38, bV (bif ((p0.hi.toList == ((⟨#[]⟩ : ByteArray)).toList)) then true else (bif (!(p1.hi.toList == ((⟨#[]⟩ : ByteArray)).toList)) then (Op.bytesLess p1.hi.toList p0.hi.toList) else false)))] [(3, [.bx [sC p1.lo, sC p1.hi]]), (4, [.bx [sC ((⟨#[]⟩ : ByteArray)), sC ((⟨#[]⟩ : ByteArray))]]), (6, [.bx [sC (maxS p0.lo p1.lo), sC p0.hi]])]) ?_ ?_
      · refine a_ops [0, 1, 2, 3, 4, 5, 6, 7, 8, 9, 10, 11, 12, 13, 14] (by kernel_rfl) ?_
        refine ao_some [0, 1, 2, 3] [4, 5, 6, 7, 8, 9, 10, 11, 12, 13, 14] [2, 3, 4, 6, 27] tyOK (st1 := mk 47 [(2, .one (.pl [(2, 0)] 0 0)), (3, .one (.pl [(3, 0)] 0 0)), (4, .one (.pl [(4, 0)] 0 0)), (6, .one (.pl [(6, 0)] 0 0)), (27, bV ((p0.hi.toList == ((⟨#[]⟩ : ByteArray)).toList)))] [(2, [.bx [sC p0.lo, sC p0.hi]]), (3, [.bx [sC p1.lo, sC p1.hi]]), (4, [.bx [sC ((⟨#[]⟩ : ByteArray)), sC ((⟨#[]⟩ : ByteArray))]]), (6, [.bx [sC (maxS p0.lo p1.lo), sC p0.hi]])]) (by kernel_rfl) ?_
        rcases Bool.eq_false_or_eq_true ((p0.hi.toList == ((⟨#[]⟩ : ByteArray)).toList)) with h2 | h2
        · refine ao_says (k := 27) (t := bV ((p0.hi.toList == ((⟨#[]⟩ : ByteArray)).toList))) (t' := bV true) (st1 := mk 47 [(2, .one (.pl [(2, 0)] 0 0)), (3, .one (.pl [(3, 0)] 0 0)), (4, .one (.pl [(4, 0)] 0 0)), (6, .one (.pl [(6, 0)] 0 0)), (27, bV true)] [(2, [.bx [sC p0.lo, sC p0.hi]]), (3, [.bx [sC p1.lo, sC p1.hi]]), (4, [.bx [sC ((⟨#[]⟩ : ByteArray)), sC ((⟨#[]⟩ : ByteArray))]]), (6, [.bx [sC (maxS p0.lo p1.lo), sC p0.hi]])]) (by kernel_rfl) (by rw [h2]) (by kernel_rfl) ?_
          refine ao_some [4, 5, 6, 7, 8, 9, 10, 11, 12, 13, 14] [] [3, 4, 6, 38] tyOK (st1 := mk 47 [(3, .one (.pl [(3, 0)] 0 0)), (4, .one (.pl [(4, 0)] 0 0)), (6, .one (.pl [(6, 0)] 0 0)), (38, bV true)] [(3, [.bx [sC p1.lo, sC p1.hi]]), (4, [.bx [sC ((⟨#[]⟩ : ByteArray)), sC ((⟨#[]⟩ : ByteArray))]]), (6, [.bx [sC (maxS p0.lo p1.lo), sC p0.hi]])]) (by kernel_rfl) ?_
          refine ao_nil ?_
          show mk 47 [(3, .one (.pl [(3, 0)] 0 0)), (4, .one (.pl [(4, 0)] 0 0)), (6, .one (.pl [(6, 0)] 0 0)), (38, bV true)] [(3, [.bx [sC p1.lo, sC p1.hi]]), (4, [.bx [sC ((⟨#[]⟩ : ByteArray)), sC ((⟨#[]⟩ : ByteArray))]]), (6, [.bx [sC (maxS p0.lo p1.lo), sC p0.hi]])] = mk 47 [(3, .one (.pl [(3, 0)] 0 0)), (4, .one (.pl [(4, 0)] 0 0)), (6, .one (.pl [(6, 0)] 0 0)), (38, bV (bif ((p0.hi.toList == ((⟨#[]⟩ : ByteArray)).toList)) then true else (bif (!(p1.hi.toList == ((⟨#[]⟩ : ByteArray)).toList)) then (Op.bytesLess p1.hi.toList p0.hi.toList) else false)))] [(3, [.bx [sC p1.lo, sC p1.hi]]), (4, [.bx [sC ((⟨#[]⟩ : ByteArray)), sC ((⟨#[]⟩ : ByteArray))]]), (6, [.bx [sC (maxS p0.lo p1.lo), sC p0.hi]])]
          first | rfl | (simp only [h2, cond_true, cond_false]) | (simp only [h2, cond_true, cond_false]; rfl)
        · refine ao_says (k := 27) (t := bV ((p0.hi.toList == ((⟨#[]⟩ : ByteArray)).toList))) (t' := bV false) (st1 := mk 47 [(2, .one (.pl [(2, 0)] 0 0)), (3, .one (.pl [(3, 0)] 0 0)), (4, .one (.pl [(4, 0)] 0 0)), (6, .one (.pl [(6, 0)] 0 0)), (27, bV false)] [(2, [.bx [sC p0.lo, sC p0.hi]]), (3, [.bx [sC p1.lo, sC p1.hi]]), (4, [.bx [sC ((⟨#[]⟩ : ByteArray)), sC ((⟨#[]⟩ : ByteArray))]]), (6, [.bx [sC (maxS p0.lo p1.lo), sC p0.hi]])]) (by kernel_rfl) (by rw [h2]) (by kernel_rfl) ?_
          refine ao_some [4, 5, 6, 7] [8, 9, 10, 11, 12, 13, 14] [2, 3, 4, 6, 27, 31] tyOK (st1 := mk 47 [(2, .one (.pl [(2, 0)] 0 0)), (3, .one (.pl [(3, 0)] 0 0)), (4, .one (.pl [(4, 0)] 0 0)), (6, .one (.pl [(6, 0)] 0 0)), (27, bV false), (31, bV (!(p1.hi.toList == ((⟨#[]⟩ : ByteArray)).toList)))] [(2, [.bx [sC p0.lo, sC p0.hi]]), (3, [.bx [sC p1.lo, sC p1.hi]]), (4, [.bx [sC ((⟨#[]⟩ : ByteArray)), sC ((⟨#[]⟩ : ByteArray))]]), (6, [.bx [sC (maxS p0.lo p1.lo), sC p0.hi]])]) (by kernel_rfl) ?_
          rcases Bool.eq_false_or_eq_true (!(p1.hi.toList == ((⟨#[]⟩ : ByteArray)).toList)) with h3 | h3
          · refine ao_says (k := 31) (t := bV (!(p1.hi.toList == ((⟨#[]⟩ : ByteArray)).toList))) (t' := bV true) (st1 := mk 47 [(2, .one (.pl [(2, 0)] 0 0)), (3, .one (.pl [(3, 0)] 0 0)), (4, .one (.pl [(4, 0)] 0 0)), (6, .one (.pl [(6, 0)] 0 0)), (27, bV false), (31, bV true)] [(2, [.bx [sC p0.lo, sC p0.hi]]), (3, [.bx [sC p1.lo, sC p1.hi]]), (4, [.bx [sC ((⟨#[]⟩ : ByteArray)), sC ((⟨#[]⟩ : ByteArray))]]), (6, [.bx [sC (maxS p0.lo p1.lo), sC p0.hi]])]) (by kernel_rfl) (by rw [h3]) (by kernel_rfl) ?_
            refine ao_some [8, 9, 10, 11, 12, 13, 14] [] [3, 4, 6, 38] tyOK (st1 := mk 47 [(3, .one (.pl [(3, 0)] 0 0)), (4, .one (.pl [(4, 0)] 0 0)), (6, .one (.pl [(6, 0)] 0 0)), (38, bV (Op.bytesLess p1.hi.toList p0.hi.toList))] [(3, [.bx [sC p1.lo, sC p1.hi]]), (4, [.bx [sC ((⟨#[]⟩ : ByteArray)), sC ((⟨#[]⟩ : ByteArray))]]), (6, [.bx [sC (maxS p0.lo p1.lo), sC p0.hi]])]) (by kernel_rfl) ?_
            refine ao_nil ?_
            show mk 47 [(3, .one (.pl [(3, 0)] 0 0)), (4, .one (.pl [(4, 0)] 0 0)), (6, .one (.pl [(6, 0)] 0 0)), (38, bV (Op.bytesLess p1.hi.toList p0.hi.toList))] [(3, [.bx [sC p1.lo, sC p1.hi]]), (4, [.bx [sC ((⟨#[]⟩ : ByteArray)), sC ((⟨#[]⟩ : ByteArray))]]), (6, [.bx [sC (maxS p0.lo p1.lo), sC p0.hi]])] = mk 47 [(3, .one (.pl [(3, 0)] 0 0)), (4, .one (.pl [(4, 0)] 0 0)), (6, .one (.pl [(6, 0)] 0 0)), (38, bV (bif ((p0.hi.toList == ((⟨#[]⟩ : ByteArray)).toList)) then true else (bif (!(p1.hi.toList == ((⟨#[]⟩ : ByteArray)).toList)) then (Op.bytesLess p1.hi.toList p0.hi.toList) else false)))] [(3, [.bx [sC p1.lo, sC p1.hi]]), (4, [.bx [sC ((⟨#[]⟩ : ByteArray)), sC ((⟨#[]⟩ : ByteArray))]]), (6, [.bx [sC (maxS p0.lo p1.lo), sC p0.hi]])]
            first | rfl | (simp only [h2, h3, cond_true, cond_false]) | (simp only [h2, h3, cond_true, cond_false]; rfl)
          · refine ao_says (k := 31) (t := bV (!(p1.hi.toList == ((⟨#[]⟩ : ByteArray)).toList))) (t' := bV false) (st1 := mk 47 [(2, .one (.pl [(2, 0)] 0 0)), (3, .one (.pl [(3, 0)] 0 0)), (4, .one (.pl [(4, 0)] 0 0)), (6, .one (.pl [(6, 0)] 0 0)), (27, bV false), (31, bV false)] [(2, [.bx [sC p0.lo, sC p0.hi]]), (3, [.bx [sC p1.lo, sC p1.hi]]), (4, [.bx [sC ((⟨#[]⟩ : ByteArray)), sC ((⟨#[]⟩ : ByteArray))]]), (6, [.bx [sC (maxS p0.lo p1.lo), sC p0.hi]])]) (by kernel_rfl) (by rw [h3]) (by kernel_rfl) ?_
            refine ao_some [8, 9, 10, 11, 12, 13, 14] [] [3, 4, 6, 38] tyOK (st1 := mk 47 [(3, .one (.pl [(3, 0)] 0 0)), (4, .one (.pl [(4, 0)] 0 0)), (6, .one (.pl [(6, 0)] 0 0)), (38, bV false)] [(3, [.bx [sC p1.lo, sC p1.hi]]), (4, [.bx [sC ((⟨#[]⟩ : ByteArray)), sC ((⟨#[]⟩ : ByteArray))]]), (6, [.bx [sC (maxS p0.lo p1.lo), sC p0.hi]])]) (by kernel_rfl) ?_
            refine ao_nil ?_
            show mk 47 [(3, .one (.pl [(3, 0)] 0 0)), (4, .one (.pl [(4, 0)] 0 0)), (6, .one (.pl [(6, 0)] 0 0)), (38, bV false)] [(3, [.bx [sC p1.lo, sC p1.hi]]), (4, [.bx [sC ((⟨#[]⟩ : ByteArray)), sC ((⟨#[]⟩ : ByteArray))]]), (6, [.bx [sC (maxS p0.lo p1.lo), sC p0.hi]])] = mk 47 [(3, .one (.pl [(3, 0)] 0 0)), (4, .one (.pl [(4, 0)] 0 0)), (6, .one (.pl [(6, 0)] 0 0)), (38, bV (bif ((p0.hi.toList == ((⟨#[]⟩ : ByteArray)).toList)) then true else (bif (!(p1.hi.toList == ((⟨#[]⟩ : ByteArray)).toList)) then (Op.bytesLess p1.hi.toList p0.hi.toList) else false)))] [(3, [.bx [sC p1.lo, sC p1.hi]]), (4, [.bx [sC ((⟨#[]⟩ : ByteArray)), sC ((⟨#[]⟩ : ByteArray))]]), (6, [.bx [sC (maxS p0.lo p1.lo), sC p0.hi]])]
            first | rfl | (simp only [h2, h3, cond_true, cond_false]) | (simp only [h2, h3, cond_true, cond_false]; rfl)
      obtain ⟨y1, h, ky1⟩ := bndJ_e h
      refine a_joinT (ι := ByteArray) (fun j => mk 47 [(4, .one (.pl [(4, 0)] 0 0)), (6, .one (.pl [(6, 0)] 0 0))] [(4, [.bx [sC ((⟨#[]⟩ : ByteArray)), sC ((⟨#[]⟩ : ByteArray))]]), (6, [.bx [sC (maxS p0.lo p1.lo), sC j]])]) (fun j => y1 = j) ?_ ?_
      · refine a_cond (b := bif ((p0.hi.toList == ((⟨#[]⟩ : ByteArray)).toList)) then true else (bif (!(p1.hi.toList == ((⟨#[]⟩ : ByteArray)).toList)) then (Op.bytesLess p1.hi.toList p0.hi.toList) else false)) (by kernel_rfl) (fun h2 => ?_) (fun h2 => ?_)
        · replace h := cT h2 h
          refine a_run [4, 6] tyOK (st1 := mk 47 [(4, .one (.pl [(4, 0)] 0 0)), (6, .one (.pl [(6, 0)] 0 0))] [(4, [.bx [sC ((⟨#[]⟩ : ByteArray)), sC ((⟨#[]⟩ : ByteArray))]]), (6, [.bx [sC (maxS p0.lo p1.lo), sC p1.hi]])]) (by kernel_rfl) ?_
          obtain rfl := Option.some.inj h
          show ∃ _, _ ∧ Imp _ _ _
          refine ⟨_, rfl, ?_⟩
          exact imp_keepTo [4, 6] (by kernel_rfl) (imp_done rfl)
        · replace h := cF h2 h
          refine a_skip ?_
          obtain rfl := Option.some.inj h
          show ∃ _, _ ∧ Imp _ _ _
          refine ⟨_, rfl, ?_⟩
          exact imp_keepTo [4, 6] (by kernel_rfl) (imp_done rfl)
      intro j1 hj1
      replace h := ky1 _ hj1
      refine a_seq ?_
      refine a_seq ?_
      refine a_ops [0, 1, 2] (by kernel_rfl) ?_
      refine ao_some [0] [1, 2] [4, 6, 42] tyOK (st1 := mk 47 [(4, .one (.pl [(4, 0)] 0 0)), (6, .one (.pl [(6, 0)] 0 0)), (42, .agg [.c (sC (maxS p0.lo p1.lo)), .c (sC j1)])] [(4, [.bx [sC ((⟨#[]⟩ : ByteArray)), sC ((⟨#[]⟩ : ByteArray))]]), (6, [.bx [sC (maxS p0.lo p1.lo), sC j1]])]) (by kernel_rfl) ?_
      refine ao_enter (f := 93) (d := 43) (A := [.agg [.c (sC (maxS p0.lo p1.lo)), .c (sC j1)]]) (st1 := mk 47 [(4, .one (.pl [(4, 0)] 0 0)), (6, .one (.pl [(6, 0)] 0 0)), (43, bV (i_RangeOk ((⟨maxS p0.lo p1.lo, j1⟩ : Range))))] [(4, [.bx [sC ((⟨#[]⟩ : ByteArray)), sC ((⟨#[]⟩ : ByteArray))]]), (6, [.bx [sC (maxS p0.lo p1.lo), sC j1]])]) [4, 6, 43] (k_i_RangeOk ((⟨maxS p0.lo p1.lo, j1⟩ : Range)) _ rfl) Try.call93 (by kernel_rfl) (by kernel_rfl) (by kernel_rfl) ?_
      refine ao_some [2] [] [4, 6, 44] tyOK (st1 := mk 47 [(4, .one (.pl [(4, 0)] 0 0)), (6, .one (.pl [(6, 0)] 0 0)), (44, bV (!(i_RangeOk ((⟨maxS p0.lo p1.lo, j1⟩ : Range)))))] [(4, [.bx [sC ((⟨#[]⟩ : ByteArray)), sC ((⟨#[]⟩ : ByteArray))]]), (6, [.bx [sC (maxS p0.lo p1.lo), sC j1]])]) (by kernel_rfl) ?_
      refine ao_nil ?_
      refine a_cond (b := !(i_RangeOk ((⟨maxS p0.lo p1.lo, j1⟩ : Range)))) (by kernel_rfl) (fun h3 => ?_) (fun h3 => ?_)
      · replace h := cT h3 h
        refine a_seq ?_
        refine a_run [4, 5] tyOK (st1 := mk 47 [(4, .one (.pl [(4, 0)] 0 0)), (5, bV false)] [(4, [.bx [sC ((⟨#[]⟩ : ByteArray)), sC ((⟨#[]⟩ : ByteArray))]])]) (by kernel_rfl) ?_
        refine a_ret ?_
        obtain rfl := Option.some.inj h
        exact end_eq (res' := .tup [.agg [.c (sC ((⟨#[]⟩ : ByteArray))), .c (sC ((⟨#[]⟩ : ByteArray)))], .one (.c (bC false))]) (by kernel_rfl) (by first | rfl | simp)
      · replace h := cF h3 h
        refine a_skip ?_
        refine a_seq ?_
        refine a_run [4, 5] tyOK (st1 := mk 47 [(4, .one (.pl [(4, 0)] 0 0)), (5, bV true)] [(4, [.bx [sC (maxS p0.lo p1.lo), sC j1]])]) (by kernel_rfl) ?_
        refine a_ret ?_
        obtain rfl := Option.some.inj h
        exact end_eq (res' := .tup [.agg [.c (sC (maxS p0.lo p1.lo)), .c (sC j1)], .one (.c (bC true))]) (by kernel_rfl) (by first | rfl | simp)

noncomputable def i_clash (p0 : Lock) (p1 : Lock) : Option (Bool) :=
 bif (bif (((p0.tx.c == p1.tx.c) && ((p0.tx.e == p1.tx.e) && ((p0.tx.n == p1.tx.n) && true)))) then true else (bif (!p0.ex) then (!p1.ex) else false)) then
 (some false)
 else
 (bnd (i_RangeBoth p0.range p1.range) fun r1 =>
 some r1.2)
set_option maxHeartbeats 4000000 in
/-- impl.clash -/
theorem k_i_clash (p0 : Lock) (p1 : Lock) (v : Bool) (h : i_clash p0 p1 = some v) : CallOK Try.prog 107 [.agg [.c (iC p0.tx.c), .c (iC p0.tx.e), .c (iC p0.tx.n), .c (sC p0.range.lo), .c (sC p0.range.hi), .c (bC p0.ex)], .agg [.c (iC p1.tx.c), .c (iC p1.tx.e), .c (iC p1.tx.n), .c (sC p1.range.lo), .c (sC p1.range.hi), .c (bC p1.ex)]] (bV v) [] :=
  callOK tyOK Try.func107 rfl fun w S hS => by
    unfold i_clash at h
    refine a_seq ?_
    refine a_run [2, 3] tyOK (st1 := mk 31 [(2, .one (.pl [(2, 0)] 0 0)), (3, .one (.pl [(3, 0)] 0 0))] [(2, [.bx [iC p0.tx.c, iC p0.tx.e, iC p0.tx.n, sC p0.range.lo, sC p0.range.hi, bC p0.ex]]), (3, [.bx [iC p1.tx.c, iC p1.tx.e, iC p1.tx.n, sC p1.range.lo, sC p1.range.hi, bC p1.ex]])]) (by kernel_rfl) ?_
    refine a_seq ?_
    refine a_seq ?_
    refine a_mid (mk 31 [(2, .one (.pl [(2, 0)] 0 0)), (3, .one (.pl [(3, 0)] 0 0)), (21, bV (bif (((p0.tx.c == p1.tx.c) && ((p0.tx.e == p1.tx.e) && ((p0.tx.n == p1.tx.n) && true)))) then true else (bif (!p0.ex) then (!p1.ex) else false)))] [(2, [.bx [iC p0.tx.c, iC p0.tx.e, iC p0.tx.n, sC p0.range.lo, sC p0.range.hi, bC p0.ex]]), (3, [.bx [iC p1.tx.c, iC p1.tx.e, iC p1.tx.n, sC p1.range.lo, sC p1.range.hi, bC p1.ex]])]) ?_ ?_
    · refine a_ops [0, 1, 2, 3, 4, 5, 6, 7, 8, 9, 10, 11, 12, 13, 14] (by kernel_rfl) ?_
      refine ao_some [0, 1, 2, 3, 4, 5] [6, 7, 8, 9, 10, 11, 12, 13, 14] [2, 3, 12] tyOK (st1 := mk 31 [(2, .one (.pl [(2, 0)] 0 0)), (3, .one (.pl [(3, 0)] 0 0)), (12, bV (((p0.tx.c == p1.tx.c) && ((p0.tx.e == p1.tx.e) && ((p0.tx.n == p1.tx.n) && true)))))] [(2, [.bx [iC p0.tx.c, iC p0.tx.e, iC p0.tx.n, sC p0.range.lo, sC p0.range.hi, bC p0.ex]]), (3, [.bx [iC p1.tx.c, iC p1.tx.e, iC p1.tx.n, sC p1.range.lo, sC p1.range.hi, bC p1.ex]])]) (by kernel_rfl) ?_
      rcases Bool.eq_false_or_eq_true (((p0.tx.c == p1.tx.c) && ((p0.tx.e == p1.tx.e) && ((p0.tx.n == p1.tx.n) && true)))) with h1 | h1
      · refine ao_says (k := 12) (t := bV (((p0.tx.c == p1.tx.c) && ((p0.tx.e == p1.tx.e) && ((p0.tx.n == p1.tx.n) && true))))) (t' := bV true) (st1 := mk 31 [(2, .one (.pl [(2, 0)] 0 0)), (3, .one (.pl [(3, 0)] 0 0)), (12, bV true)] [(2, [.bx [iC p0.tx.c, iC p0.tx.e, iC p0.tx.n, sC p0.range.lo, sC p0.range.hi, bC p0.ex]]), (3, [.bx [iC p1.tx.c, iC p1.tx.e, iC p1.tx.n, sC p1.range.lo, sC p1.range.hi, bC p1.ex]])]) (by kernel_rfl) (by rw [h1]) (by kernel_rfl) ?_
        refine ao_some [6, 7, 8, 9, 10, 11, 12, 13, 14] [] [2, 3, 21] tyOK (st1 := mk 31 [(2, .one (.pl [(2, 0)] 0 0)), (3, .one (.pl [(3, 0)] 0 0)), (21, bV true)] [(2, [.bx [iC p0.tx.c, iC p0.tx.e, iC p0.tx.n, sC p0.range.lo, sC p0.range.hi, bC p0.ex]]), (3, [.bx [iC p1.tx.c, iC p1.tx.e, iC p1.tx.n, sC p1.range.lo, sC p1.range.hi, bC p1.ex]])]) (by kernel_rfl) ?_
        refine ao_nil ?_
        show mk 31 [(2, .one (.pl [(2, 0)] 0 0)), (3, .one (.pl [(3, 0)] 0 0)), (21, bV true)] [(2, [.bx [iC p0.tx.c, iC p0.tx.e, iC p0.tx.n, sC p0.range.lo, sC p0.range.hi, bC p0.ex]]), (3, [.bx [iC p1.tx.c, iC p1.tx.e, iC p1.tx.n, sC p1.range.lo, sC p1.range.hi, bC p1.ex]])] = mk 31 [(2, .one (.pl [(2, 0)] 0 0)), (3, .one (.pl [(3, 0)] 0 0)), (21, bV (bif (((p0.tx.c == p1.tx.c) && ((p0.tx.e == p1.tx.e) && ((p0.tx.n == p1.tx.n) && true)))) then true else (bif (!p0.ex) then (!p1.ex) else false)))] [(2, [.bx [iC p0.tx.c, iC p0.tx.e, iC p0.tx.n, sC p0.range.lo, sC p0.range.hi, bC p0.ex]]), (3, [.bx [iC p1.tx.c, iC p1.tx.e, iC p1.tx.n, sC p1.range.lo, sC p1.range.hi, bC p1.ex]])]
        first | rfl | (simp only [h1, cond_true, cond_false]) | (simp only [h1, cond_true, cond_false]; rfl)
      · refine ao_says (k := 12) (t := bV (((p0.tx.c == p1.tx.c) && ((p0.tx.e == p1.tx.e) && ((p0.tx.n == p1.tx.n) && true))))) (t' := bV false) (st1 := mk 31 [(2, .one (.pl [(2, 0)] 0 0)), (3, .one (.pl [(3, 0)] 0 0)), (12, bV false)] [(2, [.bx [iC p0.tx.c, iC p0.tx.e, iC p0.tx.n, sC p0.range.lo, sC p0.range.hi, bC p0.ex]]), (3, [.bx [iC p1.tx.c, iC p1.tx.e, iC p1.tx.n, sC p1.range.lo, sC p1.range.hi, bC p1.ex]])]) (by kernel_rfl) (by rw [h1]) (by kernel_rfl) ?_
        refine ao_some [6, 7, 8, 9] [10, 11, 12, 13, 14] [2, 3, 12, 16] tyOK (st1 := mk 31 [(2, .one (.pl [(2, 0)] 0 0)), (3, .one (.pl [(3, 0)] 0 0)), (12, bV false), (16, bV (!p0.ex))] [(2, [.bx [iC p0.tx.c, iC p0.tx.e, iC p0.tx.n, sC p0.range.lo, sC p0.range.hi, bC p0.ex]]), (3, [.bx [iC p1.tx.c, iC p1.tx.e, iC p1.tx.n, sC p1.range.lo, sC p1.range.hi, bC p1.ex]])]) (by kernel_rfl) ?_
        rcases Bool.eq_false_or_eq_true (!p0.ex) with h2 | h2
        · refine ao_says (k := 16) (t := bV (!p0.ex)) (t' := bV true) (st1 := mk 31 [(2, .one (.pl [(2, 0)] 0 0)), (3, .one (.pl [(3, 0)] 0 0)), (12, bV false), (16, bV true)] [(2, [.bx [iC p0.tx.c, iC p0.tx.e, iC p0.tx.n, sC p0.range.lo, sC p0.range.hi, bC p0.ex]]), (3, [.bx [iC p1.tx.c, iC p1.tx.e, iC p1.tx.n, sC p1.range.lo, sC p1.range.hi, bC p1.ex]])]) (by kernel_rfl) (by rw [h2]) (by kernel_rfl) ?_
          refine ao_some [10, 11, 12, 13, 14] [] [2, 3, 21] tyOK (st1 := mk 31 [(2, .one (.pl [(2, 0)] 0 0)), (3, .one (.pl [(3, 0)] 0 0)), (21, bV (!p1.ex))] [(2, [.bx [iC p0.tx.c, iC p0.tx.e, iC p0.tx.n, sC p0.range.lo, sC p0.range.hi, bC p0.ex]]), (3, [.bx [iC p1.tx.c, iC p1.tx.e, iC p1.tx.n, sC p1.range.lo, sC p1.range.hi, bC p1.ex]])]) (by kernel_rfl) ?_
          refine ao_nil ?_
          show mk 31 [(2, .one (.pl [(2, 0)] 0 0)), (3, .one (.pl [(3, 0)] 0 0)), (21, bV (!p1.ex))] [(2, [.bx [iC p0.tx.c, iC p0.tx.e, iC p0.tx.n, sC p0.range.lo, sC p0.range.hi, bC p0.ex]]), (3, [.bx [iC p1.tx.c, iC p1.tx.e, iC p1.tx.n, sC p1.range.lo, sC p1.range.hi, bC p1.ex]])] = mk 31 [(2, .one (.pl [(2, 0)] 0 0)), (3, .one (.pl [(3, 0)] 0 0)), (21, bV (bif (((p0.tx.c == p1.tx.c) && ((p0.tx.e == p1.tx.e) && ((p0.tx.n == p1.tx.n) && true)))) then true else (bif (!p0.ex) then (!p1.ex) else false)))] [(2, [.bx [iC p0.tx.c, iC p0.tx.e, iC p0.tx.n, sC p0.range.lo, sC p0.range.hi, bC p0.ex]]), (3, [.bx [iC p1.tx.c, iC p1.tx.e, iC p1.tx.n, sC p1.range.lo, sC p1.range.hi, bC p1.ex]])]
          first | rfl | (simp only [h1, h2, cond_true, cond_false]) | (simp only [h1, h2, cond_true, cond_false]; rfl)
        · refine ao_says (k := 16) (t := bV (!p0.ex)) (t' := bV false) (st1 := mk 31 [(2, .one (.pl [(2, 0)] 0 0)), (3, .one (.pl [(3, 0)] 0 0)), (12, bV false), (16, bV false)] [(2, [.bx [iC p0.tx.c, iC p0.tx.e, iC p0.tx.n, sC p0.range.lo, sC p0.range.hi, bC p0.ex]]), (3, [.bx [iC p1.tx.c, iC p1.tx.e, iC p1.tx.n, sC p1.range.lo, sC p1.range.hi, bC p1.ex]])]) (by kernel_rfl) (by rw [h2]) (by kernel_rfl) ?_
          refine ao_some [10, 11, 12, 13, 14] [] [2, 3, 21] tyOK (st1 := mk 31 [(2, .one (.pl [(2, 0)] 0 0)), (3, .one (.pl [(3, 0)] 0 0)), (21, bV false)] [(2, [.bx [iC p0.tx.c, iC p0.tx.e, iC p0.tx.n, sC p0.range.lo, sC p0.range.hi, bC p0.ex]]), (3, [.bx [iC p1.tx.c, iC p1.tx.e, iC p1.tx.n, sC p1.range.lo, sC p1.range.hi, bC p1.ex]])]) (by kernel_rfl) ?_
          refine ao_nil ?_
          show mk 31 [(2, .one (.pl [(2, 0)] 0 0)), (3, .one (.pl [(3, 0)] 0 0)), (21, bV false)] [(2, [.bx [iC p0.tx.c, iC p0.tx.e, iC p0.tx.n, sC p0.range.lo, sC p0.range.hi, bC p0.ex]]), (3, [.bx [iC p1.tx.c, iC p1.tx.e, iC p1.tx.n, sC p1.range.lo, sC p1.range.hi, bC p1.ex]])] = mk 31 [(2, .one (.pl [(2, 0)] 0 0)), (3, .one (.pl [(3, 0)] 0 0)), (21, bV (bif (((p0.tx.c == p1.tx.c) && ((p0.tx.e == p1.tx.e) && ((p0.tx.n == p1.tx.n) && true)))) then true else (bif (!p0.ex) then (!p1.ex) else false)))] [(2, [.bx [iC p0.tx.c, iC p0.tx.e, iC p0.tx.n, sC p0.range.lo, sC p0.range.hi, bC p0.ex]]), (3, [.bx [iC p1.tx.c, iC p1.tx.e, iC p1.tx.n, sC p1.range.lo, sC p1.range.hi, bC p1.ex]])]
          first | rfl | (simp only [h1, h2, cond_true, cond_false]) | (simp only [h1, h2, cond_true, cond_false]; rfl)
    refine a_cond (b := bif (((p0.tx.c == p1.tx.c) && ((p0.tx.e == p1.tx.e) && ((p0.tx.n == p1.tx.n) && true)))) then true else (bif (!p0.ex) then (!p1.ex) else false)) (by kernel_rfl) (fun h1 => ?_) (fun h1 => ?_)
    · replace h := cT h1 h
      refine a_seq ?_
      refine a_run [4] tyOK (st1 := mk 31 [(4, bV false)] []) (by kernel_rfl) ?_
      refine a_ret ?_
      obtain rfl := Option.some.inj h
      exact end_eq (res' := bV false) (by kernel_rfl) (by first | rfl | simp)
    · replace h := cF h1 h
      refine a_skip ?_
      refine a_seq ?_
      refine a_ops [0, 1, 2, 3, 4, 5, 6, 7, 8, 9, 10] (by kernel_rfl) ?_
      refine ao_some [0, 1, 2, 3] [4, 5, 6, 7, 8, 9, 10] [24, 26] tyOK (st1 := mk 31 [(24, .agg [.c (sC p0.range.lo), .c (sC p0.range.hi)]), (26, .agg [.c (sC p1.range.lo), .c (sC p1.range.hi)])] []) (by kernel_rfl) ?_
      obtain ⟨r1, er1, h⟩ := bnd_e h
      refine ao_enter (f := 117) (d := 27) (A := [.agg [.c (sC p0.range.lo), .c (sC p0.range.hi)], .agg [.c (sC p1.range.lo), .c (sC p1.range.hi)]]) (st1 := mk 31 [(27, .tup [.agg [.c (sC r1.1.lo), .c (sC r1.1.hi)], .one (.c (bC r1.2))])] []) [27] (k_i_RangeBoth p0.range p1.range r1 er1) Try.call117 (by kernel_rfl) (by kernel_rfl) (by kernel_rfl) ?_
      refine ao_some [5, 6, 7, 8, 9, 10] [] [6] tyOK (st1 := mk 31 [(6, bV r1.2)] []) (by kernel_rfl) ?_
      refine ao_nil ?_
      refine a_seq ?_
      refine a_run [4] tyOK (st1 := mk 31 [(4, bV r1.2)] []) (by kernel_rfl) ?_
      refine a_ret ?_
      obtain rfl := Option.some.inj h
      exact end_eq (res' := bV r1.2) (by kernel_rfl) (by first | rfl | simp)

end Go.Proofs.Ytijmnochaamllaa
