/- What functions of the given program compute, each proved once, for the law that is proved in YtagoajkiccgmjaaLocks: whatever their arguments, under the conditions that each theorem names. -/
import Derived.Test.YtagoajkiccgmjaaLocksPartB
set_option linter.unusedVariables false
set_option linter.unusedSimpArgs false
namespace Go.Proofs.Ytagoajkiccgmjaa
open Go.Mv Go.RowKit
noncomputable def Bi_LocksOk_1 (p0 : Locks) (s1 : Int) : Option (Int ⊕ (Unit ⊕ (Bool))) :=
 bif (decide (s1 < (((((p0.held).map eLock).length : Nat) : Int)))) then
 (bnd (getI p0.held s1) fun x1 =>
 bnd (bif (!(i_lockOk x1)) then
 (some true)
 else
 (chk (0 ≤ (0 : Int) ∧ (0 : Int) ≤ s1 ∧ s1 ≤ ((p0.held).length : Int)) <|
 bnd (i_isFree x1 ([p0.held.take ((s1).toNat)])) fun r1 =>
 some (!r1))) fun j1 =>
 bif j1 then
 (some (.inr (.inr false)))
 else
 (some (.inl (IntKind.wrap .i64 (s1 + 1)))))
 else
 (some (.inr (.inl (()))))

noncomputable def Bi_LocksOk_2 (p0 : Locks) (s2 : Int) : Option (Int ⊕ (Unit ⊕ (Bool))) :=
 bif (decide (s2 < (((((p0.wait).map eLock).length : Nat) : Int)))) then
 (bnd (getI p0.wait s2) fun x2 =>
 chk (0 ≤ (0 : Int) ∧ (0 : Int) ≤ s2 ∧ s2 ≤ ((p0.wait).length : Int)) <|
 bnd (bif (!(i_lockOk x2)) then
 (some true)
 else
 (bnd (i_Locks_waits ((⟨[], p0.wait.take ((s2).toNat)⟩ : Locks)) x2.tx) fun r2 =>
 bif r2 then
 (some true)
 else
 (chk (0 ≤ (0 : Int) ∧ (0 : Int) ≤ s2 ∧ s2 ≤ ((p0.wait).length : Int)) <|
 bnd (i_isFree x2 ([p0.held, p0.wait.take ((s2).toNat)])) fun r3 =>
 some r3))) fun j3 =>
 bif j3 then
 (some (.inr (.inr false)))
 else
 (some (.inl (IntKind.wrap .i64 (s2 + 1)))))
 else
 (some (.inr (.inl (()))))

noncomputable def i_LocksOk (p0 : Locks) : Option (Bool) :=
 bif (decide ((IntKind.wrap .i64 ((((((p0.held).map eLock).length : Nat) : Int)) + (((((p0.wait).map eLock).length : Nat) : Int)))) > 60)) then
 (some false)
 else
 (bndS (loopT (Bi_LocksOk_1 p0) 0) fun j2 =>
 bndS (loopT (Bi_LocksOk_2 p0) 0) fun j4 =>
 some true)
set_option maxHeartbeats 4000000 in
/-- impl.LocksOk -/
theorem k_i_LocksOk (p0 : Locks) (v : Bool) (h : i_LocksOk p0 = some v) : CallOK Try.prog 21 [.agg [.c (lC 6 eLock p0.held), .c (lC 6 eLock p0.wait)]] (bV v) [] :=
  callOK tyOK Try.func21 rfl fun w S hS => by
    unfold i_LocksOk at h
    refine a_seq ?_
    refine a_run [1] tyOK (st1 := mk 71 [(1, pV 1)] [(1, [.bx [.fz (lC 6 eLock p0.held), .fz (lC 6 eLock p0.wait)]])]) (by as_aux_lemma => kernel_rfl) ?_
    refine a_seq ?_
    refine a_seq ?_
    refine a_runM tyOK (l1 := [(1, pV 1), (15, bV (decide ((IntKind.wrap .i64 ((((((p0.held).map eLock).length : Nat) : Int)) + (((((p0.wait).map eLock).length : Nat) : Int)))) > 60)))]) (by as_aux_lemma => kernel_rfl) ?_
    refine a_cond (b := decide ((IntKind.wrap .i64 ((((((p0.held).map eLock).length : Nat) : Int)) + (((((p0.wait).map eLock).length : Nat) : Int)))) > 60)) (by as_aux_lemma => kernel_rfl) (fun h1 => ?_) (fun h1 => ?_)
    · replace h := cT h1 h
      refine a_seq ?_
      refine a_run [2] tyOK (st1 := mk 71 [(2, bV false)] []) (by as_aux_lemma => kernel_rfl) ?_
      refine a_ret ?_
      obtain rfl := Option.some.inj h
      exact end_eq (res' := bV false) (by as_aux_lemma => kernel_rfl) (by first | rfl | simp)
    · replace h := cF h1 h
      refine a_skip ?_
      refine a_seq ?_
      refine a_seq ?_
      refine a_runM tyOK (l1 := [(1, pV 1), (17, lV 6 eLock p0.held), (18, iV (((((p0.held).map eLock).length : Nat) : Int))), (19, iV 0)]) (by as_aux_lemma => kernel_rfl) ?_
      obtain ⟨y1, h, ky1, zy1⟩ := bndS_e h
      refine a_joinT (ι := Unit) (fun j => mk 71 [(1, pV 1)] [(1, [.bx [.fz (lC 6 eLock p0.held), .fz (lC 6 eLock p0.wait)]])]) (fun j => y1 = .inl j) ?_ ?_
      · refine a_block ?_
        refine a_loopT (Bi_LocksOk_1 p0) (fun s1 => mk 71 [(1, pV 1), (17, lV 6 eLock p0.held), (18, iV (((((p0.held).map eLock).length : Nat) : Int))), (19, iV s1)] [(1, [.bx [.fz (lC 6 eLock p0.held), .fz (lC 6 eLock p0.wait)]])]) 0 h ?_ ?_
        · exact imp_keepTo [1, 17, 18, 19] (by as_aux_lemma => kernel_rfl) (imp_done rfl)
        intro s1 y2 h zy2
        unfold Bi_LocksOk_1 at h
        refine a_seq ?_
        refine a_run [1, 17, 18, 19, 20] tyOK (st1 := mk 71 [(1, pV 1), (17, lV 6 eLock p0.held), (18, iV (((((p0.held).map eLock).length : Nat) : Int))), (19, iV s1), (20, bV (decide (s1 < (((((p0.held).map eLock).length : Nat) : Int)))))] [(1, [.bx [.fz (lC 6 eLock p0.held), .fz (lC 6 eLock p0.wait)]])]) (by as_aux_lemma => kernel_rfl) ?_
        refine a_seq ?_
        refine a_cond (b := decide (s1 < (((((p0.held).map eLock).length : Nat) : Int)))) (by as_aux_lemma => kernel_rfl) (fun h2 => ?_) (fun h2 => ?_)
        · replace h := cT h2 h
          refine a_skip ?_
          refine a_seq ?_
          refine a_block ?_
          refine a_seq ?_
          refine a_ops [0, 1, 2, 3, 4, 5] (by as_aux_lemma => kernel_rfl) ?_
          refine ao_some [0] [1, 2, 3, 4, 5] [1, 17, 18, 19, 21] tyOK (st1 := mk 71 [(1, pV 1), (17, lV 6 eLock p0.held), (18, iV (((((p0.held).map eLock).length : Nat) : Int))), (19, iV s1), (21, iV s1)] [(1, [.bx [.fz (lC 6 eLock p0.held), .fz (lC 6 eLock p0.wait)]])]) (by as_aux_lemma => kernel_rfl) ?_
          obtain ⟨x1, ex1, h⟩ := bnd_e h
          refine ao_indexM (d := 22) (size := 6) (n := s1) (rows := (p0.held).map eLock) (l1 := [(1, pV 1), (17, lV 6 eLock p0.held), (18, iV (((((p0.held).map eLock).length : Nat) : Int))), (19, iV s1), (21, iV s1), (22, .one (.fp [iC x1.tx.c, iC x1.tx.e, iC x1.tx.n, sC x1.range.lo, sC x1.range.hi, bC x1.ex] 0))]) (eLock x1) tyOK (by as_aux_lemma => kernel_rfl) (getI_e ex1).1 (show ((p0.held).map eLock)[_]? = some _ from by rw [List.getElem?_map, (getI_e ex1).2]; rfl) (by as_aux_lemma => kernel_rfl) (by as_aux_lemma => kernel_rfl) ?_
          refine ao_some [2, 3, 4, 5] [] [1, 3, 4, 17, 18, 19] tyOK (st1 := mk 71 [(1, pV 1), (3, iV s1), (4, pV 4), (17, lV 6 eLock p0.held), (18, iV (((((p0.held).map eLock).length : Nat) : Int))), (19, iV s1)] [(1, [.bx [.fz (lC 6 eLock p0.held), .fz (lC 6 eLock p0.wait)]]), (4, [.bx [iC x1.tx.c, iC x1.tx.e, iC x1.tx.n, sC x1.range.lo, sC x1.range.hi, bC x1.ex]])]) (by as_aux_lemma => kernel_rfl) ?_
          refine ao_nil ?_
          refine a_seq ?_
          obtain ⟨y3, h, ky3⟩ := bndJ_e h
          refine a_joinT (ι := Bool) (fun j => mk 71 [(1, pV 1), (17, lV 6 eLock p0.held), (18, iV (((((p0.held).map eLock).length : Nat) : Int))), (19, iV s1), (36, bV j)] [(1, [.bx [.fz (lC 6 eLock p0.held), .fz (lC 6 eLock p0.wait)]])]) (fun j => y3 = j) ?_ ?_
          · rcases Bool.eq_false_or_eq_true (!(i_lockOk x1)) with h3 | h3
            · replace h := cT h3 h
              refine a_mid (mk 71 [(1, pV 1), (17, lV 6 eLock p0.held), (18, iV (((((p0.held).map eLock).length : Nat) : Int))), (19, iV s1), (36, bV true)] [(1, [.bx [.fz (lC 6 eLock p0.held), .fz (lC 6 eLock p0.wait)]])]) ?_ ?_
              · refine a_drawn (n := 13) [] (by as_aux_lemma => kernel_rfl) (by as_aux_lemma => kernel_rfl) ?_
                refine aa_take (fuel := 12) (listed' := #[true, false, false, false, false, false, false, false, false, false, false, false, false]) (st' := mk 71 [(1, pV 1), (3, iV s1), (4, pV 4), (17, lV 6 eLock p0.held), (18, iV (((((p0.held).map eLock).length : Nat) : Int))), (19, iV s1), (24, .agg [.c (iC x1.tx.c), .c (iC x1.tx.e), .c (iC x1.tx.n), .c (sC x1.range.lo), .c (sC x1.range.hi), .c (bC x1.ex)])] [(1, [.bx [.fz (lC 6 eLock p0.held), .fz (lC 6 eLock p0.wait)]]), (4, [.bx [iC x1.tx.c, iC x1.tx.e, iC x1.tx.n, sC x1.range.lo, sC x1.range.hi, bC x1.ex]])]) [0] [1, 3, 4, 17, 18, 19, 24] tyOK (by as_aux_lemma => kernel_rfl) (by as_aux_lemma => kernel_rfl) (by as_aux_lemma => kernel_rfl) ?_
                refine aa_all [1] (by as_aux_lemma => kernel_rfl) rfl ?_
                refine aa_cons ?_ aa_nil
                refine aone_enterM (listed' := #[true, true, false, false, false, false, false, false, false, false, false, false, false]) (f := 58) (d := 25) (A := [.agg [.c (iC x1.tx.c), .c (iC x1.tx.e), .c (iC x1.tx.n), .c (sC x1.range.lo), .c (sC x1.range.hi), .c (bC x1.ex)]]) (l1 := [(1, pV 1), (3, iV s1), (4, pV 4), (17, lV 6 eLock p0.held), (18, iV (((((p0.held).map eLock).length : Nat) : Int))), (19, iV s1), (25, bV (i_lockOk x1))]) (k_i_lockOk x1 _ rfl) Try.call58 (by as_aux_lemma => kernel_rfl) (by as_aux_lemma => kernel_rfl) (by as_aux_lemma => kernel_rfl) (by as_aux_lemma => kernel_rfl) ?_
                refine aa_takeM (fuel := 9) (listed' := #[true, true, true, true, false, false, false, false, false, false, false, false, false]) (l1 := [(1, pV 1), (3, iV s1), (4, pV 4), (17, lV 6 eLock p0.held), (18, iV (((((p0.held).map eLock).length : Nat) : Int))), (19, iV s1), (27, bV (!(i_lockOk x1)))]) [2, 3] tyOK (by as_aux_lemma => kernel_rfl) (by as_aux_lemma => kernel_rfl) (by as_aux_lemma => kernel_rfl) ?_
                refine aa_saysM (k := 27) (t := bV (!(i_lockOk x1))) (t' := bV true) (l1 := [(1, pV 1), (3, iV s1), (4, pV 4), (17, lV 6 eLock p0.held), (18, iV (((((p0.held).map eLock).length : Nat) : Int))), (19, iV s1), (27, bV true)]) (by as_aux_lemma => kernel_rfl) (by rw [h3]) (by as_aux_lemma => kernel_rfl) ?_
                refine aa_take (fuel := 3) (listed' := #[true, true, true, true, true, true, true, true, true, true, false, false, false]) (st' := mk 71 [(1, pV 1), (17, lV 6 eLock p0.held), (18, iV (((((p0.held).map eLock).length : Nat) : Int))), (19, iV s1), (27, bV true), (28, .tup []), (33, .tup [])] [(1, [.bx [.fz (lC 6 eLock p0.held), .fz (lC 6 eLock p0.wait)]])]) [4, 5, 6, 7, 8, 9] [1, 17, 18, 19, 27, 28, 33] tyOK (by as_aux_lemma => kernel_rfl) (by as_aux_lemma => kernel_rfl) (by as_aux_lemma => kernel_rfl) ?_
                refine aa_all [10] (by as_aux_lemma => kernel_rfl) rfl ?_
                refine aa_cons ?_ aa_nil
                refine aone_anyM (listed' := #[true, true, true, true, true, true, true, true, true, true, true, false, false]) (l1 := [(1, pV 1), (17, lV 6 eLock p0.held), (18, iV (((((p0.held).map eLock).length : Nat) : Int))), (19, iV s1), (27, bV true), (34, .tup [])]) tyOK (by as_aux_lemma => kernel_rfl) (by as_aux_lemma => kernel_rfl) ?_
                refine aa_takeM (fuel := 0) (listed' := #[true, true, true, true, true, true, true, true, true, true, true, true, true]) (l1 := [(1, pV 1), (17, lV 6 eLock p0.held), (18, iV (((((p0.held).map eLock).length : Nat) : Int))), (19, iV s1), (36, bV true)]) [11, 12] tyOK (by as_aux_lemma => kernel_rfl) (by as_aux_lemma => kernel_rfl) (by as_aux_lemma => kernel_rfl) ?_
                refine aa_done (by as_aux_lemma => kernel_rfl) ?_
                show _ = _; kernel_rfl
              obtain rfl := Option.some.inj h
              show ∃ _, _ ∧ Imp _ _ _
              refine ⟨_, rfl, ?_⟩
              exact imp_keepTo [1, 17, 18, 19, 36] (by as_aux_lemma => kernel_rfl) (imp_done rfl)
            · replace h := cF h3 h
              obtain ⟨c1, h⟩ := chk_e h
              obtain ⟨r1, er1, h⟩ := bnd_e h
              refine a_mid (mk 71 [(1, pV 1), (17, lV 6 eLock p0.held), (18, iV (((((p0.held).map eLock).length : Nat) : Int))), (19, iV s1), (36, bV (!r1))] [(1, [.bx [.fz (lC 6 eLock p0.held), .fz (lC 6 eLock p0.wait)]])]) ?_ ?_
              · refine a_drawn (n := 13) [] (by as_aux_lemma => kernel_rfl) (by as_aux_lemma => kernel_rfl) ?_
                refine aa_take (fuel := 12) (listed' := #[true, false, false, false, false, false, false, false, false, false, false, false, false]) (st' := mk 71 [(1, pV 1), (3, iV s1), (4, pV 4), (17, lV 6 eLock p0.held), (18, iV (((((p0.held).map eLock).length : Nat) : Int))), (19, iV s1), (24, .agg [.c (iC x1.tx.c), .c (iC x1.tx.e), .c (iC x1.tx.n), .c (sC x1.range.lo), .c (sC x1.range.hi), .c (bC x1.ex)])] [(1, [.bx [.fz (lC 6 eLock p0.held), .fz (lC 6 eLock p0.wait)]]), (4, [.bx [iC x1.tx.c, iC x1.tx.e, iC x1.tx.n, sC x1.range.lo, sC x1.range.hi, bC x1.ex]])]) [0] [1, 3, 4, 17, 18, 19, 24] tyOK (by as_aux_lemma => kernel_rfl) (by as_aux_lemma => kernel_rfl) (by as_aux_lemma => kernel_rfl) ?_
                refine aa_all [1] (by as_aux_lemma => kernel_rfl) rfl ?_
                refine aa_cons ?_ aa_nil
                refine aone_enterM (listed' := #[true, true, false, false, false, false, false, false, false, false, false, false, false]) (f := 58) (d := 25) (A := [.agg [.c (iC x1.tx.c), .c (iC x1.tx.e), .c (iC x1.tx.n), .c (sC x1.range.lo), .c (sC x1.range.hi), .c (bC x1.ex)]]) (l1 := [(1, pV 1), (3, iV s1), (4, pV 4), (17, lV 6 eLock p0.held), (18, iV (((((p0.held).map eLock).length : Nat) : Int))), (19, iV s1), (25, bV (i_lockOk x1))]) (k_i_lockOk x1 _ rfl) Try.call58 (by as_aux_lemma => kernel_rfl) (by as_aux_lemma => kernel_rfl) (by as_aux_lemma => kernel_rfl) (by as_aux_lemma => kernel_rfl) ?_
                refine aa_takeM (fuel := 9) (listed' := #[true, true, true, true, false, false, false, false, false, false, false, false, false]) (l1 := [(1, pV 1), (3, iV s1), (4, pV 4), (17, lV 6 eLock p0.held), (18, iV (((((p0.held).map eLock).length : Nat) : Int))), (19, iV s1), (27, bV (!(i_lockOk x1)))]) [2, 3] tyOK (by as_aux_lemma => kernel_rfl) (by as_aux_lemma => kernel_rfl) (by as_aux_lemma => kernel_rfl) ?_
                refine aa_saysM (k := 27) (t := bV (!(i_lockOk x1))) (t' := bV false) (l1 := [(1, pV 1), (3, iV s1), (4, pV 4), (17, lV 6 eLock p0.held), (18, iV (((((p0.held).map eLock).length : Nat) : Int))), (19, iV s1), (27, bV false)]) (by as_aux_lemma => kernel_rfl) (by rw [h3]) (by as_aux_lemma => kernel_rfl) ?_
                refine aa_take (fuel := 5) (listed' := #[true, true, true, true, true, true, true, true, false, false, false, false, false]) (st' := mk 71 [(1, pV 1), (17, lV 6 eLock p0.held), (18, iV (((((p0.held).map eLock).length : Nat) : Int))), (19, iV s1), (27, bV false), (28, .agg [.c (iC x1.tx.c), .c (iC x1.tx.e), .c (iC x1.tx.n), .c (sC x1.range.lo), .c (sC x1.range.hi), .c (bC x1.ex)]), (30, lV 6 eLock p0.held), (31, iV s1)] [(1, [.bx [.fz (lC 6 eLock p0.held), .fz (lC 6 eLock p0.wait)]])]) [4, 5, 6, 7] [1, 17, 18, 19, 27, 28, 30, 31] tyOK (by as_aux_lemma => kernel_rfl) (by as_aux_lemma => kernel_rfl) (by as_aux_lemma => kernel_rfl) ?_
                refine aa_q (i := 8) (d := 32) (c := (0 ≤ (0 : Int) ∧ (0 : Int) ≤ s1 ∧ s1 ≤ (((p0.held).map eLock).length : Int) ∧ ((p0.held).map eLock).all (fun r => r.length == 6) = true)) (tv := .one (.c (.sl 6 ((((p0.held).map eLock).take s1.toNat).drop (0 : Int).toNat)))) (listed' := #[true, true, true, true, true, true, true, true, true, false, false, false, false]) (st1 := mk 71 [(1, pV 1), (17, lV 6 eLock p0.held), (18, iV (((((p0.held).map eLock).length : Nat) : Int))), (19, iV s1), (27, bV false), (28, .agg [.c (iC x1.tx.c), .c (iC x1.tx.e), .c (iC x1.tx.n), .c (sC x1.range.lo), .c (sC x1.range.hi), .c (bC x1.ex)]), (32, .one (.c (.sl 6 ((((p0.held).map eLock).take s1.toNat).drop (0 : Int).toNat))))] [(1, [.bx [.fz (lC 6 eLock p0.held), .fz (lC 6 eLock p0.wait)]])]) [1, 17, 18, 19, 27, 28, 32] tyOK (by as_aux_lemma => kernel_rfl) (by as_aux_lemma => kernel_rfl) (by simpa [eLock] using c1) (by as_aux_lemma => kernel_rfl) (by as_aux_lemma => kernel_rfl) (by as_aux_lemma => kernel_rfl) ?_
                refine aa_saysM (k := 32) (t := .one (.c (.sl 6 ((((p0.held).map eLock).take s1.toNat).drop (0 : Int).toNat)))) (t' := lV 6 eLock (p0.held.take ((s1).toNat))) (l1 := [(1, pV 1), (17, lV 6 eLock p0.held), (18, iV (((((p0.held).map eLock).length : Nat) : Int))), (19, iV s1), (27, bV false), (28, .agg [.c (iC x1.tx.c), .c (iC x1.tx.e), .c (iC x1.tx.n), .c (sC x1.range.lo), .c (sC x1.range.hi), .c (bC x1.ex)]), (32, lV 6 eLock (p0.held.take ((s1).toNat)))]) (by as_aux_lemma => kernel_rfl) (by simp [List.map_take, List.map_drop]) (by as_aux_lemma => kernel_rfl) ?_
                refine aa_all [9] (by as_aux_lemma => kernel_rfl) rfl ?_
                refine aa_cons ?_ aa_nil
                refine aone_rows (d := 33) (d' := 34) (sz := 1) (f := 67) (xs := [.tmp 28, .tmp 33]) (ts := [[.c (lC 6 eLock (p0.held.take ((s1).toNat)))]]) (tl := [.c (lC 6 eLock (p0.held.take ((s1).toNat)))]) (rows := [[lC 6 eLock (p0.held.take ((s1).toNat))]]) (cl := [lC 6 eLock (p0.held.take ((s1).toNat))]) (A' := [.agg [.c (iC x1.tx.c), .c (iC x1.tx.e), .c (iC x1.tx.n), .c (sC x1.range.lo), .c (sC x1.range.hi), .c (bC x1.ex)], .one (.c (.sl 1 ([[lC 6 eLock (p0.held.take ((s1).toNat))]])))]) (st1 := mk 71 [(1, pV 1), (17, lV 6 eLock p0.held), (18, iV (((((p0.held).map eLock).length : Nat) : Int))), (19, iV s1), (27, bV false), (34, bV r1)] [(1, [.bx [.fz (lC 6 eLock p0.held), .fz (lC 6 eLock p0.wait)]])]) (j := 10) (fuel := 2) (listed1 := #[true, true, true, true, true, true, true, true, true, true, false, false, false]) (listed2 := #[true, true, true, true, true, true, true, true, true, true, true, false, false]) [1, 17, 18, 19, 27, 34] tyOK (k_i_isFree x1 ([p0.held.take ((s1).toNat)]) r1 er1) Try.call67 (by as_aux_lemma => kernel_rfl) (by as_aux_lemma => kernel_rfl) (by as_aux_lemma => kernel_rfl) (.cons (.same rfl) .nil) (by as_aux_lemma => kernel_rfl) (by as_aux_lemma => kernel_rfl) (.cons rfl (by as_aux_lemma => kernel_rfl) (.agg (.cons (.same rfl) (.cons (.same rfl) (.cons (.same rfl) (.cons (.same rfl) (.cons (.same rfl) (.cons (.same rfl) .nil))))))) (.hd .nil)) (by as_aux_lemma => kernel_rfl) clean_nil (by as_aux_lemma => kernel_rfl) (by as_aux_lemma => kernel_rfl) (by as_aux_lemma => kernel_rfl) (by as_aux_lemma => kernel_rfl) (by as_aux_lemma => kernel_rfl) ?_
                refine aa_takeM (fuel := 0) (listed' := #[true, true, true, true, true, true, true, true, true, true, true, true, true]) (l1 := [(1, pV 1), (17, lV 6 eLock p0.held), (18, iV (((((p0.held).map eLock).length : Nat) : Int))), (19, iV s1), (36, bV (!r1))]) [11, 12] tyOK (by as_aux_lemma => kernel_rfl) (by as_aux_lemma => kernel_rfl) (by as_aux_lemma => kernel_rfl) ?_
                refine aa_done (by as_aux_lemma => kernel_rfl) ?_
                show _ = _; kernel_rfl
              obtain rfl := Option.some.inj h
              show ∃ _, _ ∧ Imp _ _ _
              refine ⟨_, rfl, ?_⟩
              exact imp_keepTo [1, 17, 18, 19, 36] (by as_aux_lemma => kernel_rfl) (imp_done rfl)
          intro j1 hj1
          replace h := ky3 _ hj1
          refine a_cond (b := j1) (by as_aux_lemma => kernel_rfl) (fun h4 => ?_) (fun h4 => ?_)
          · replace h := cT h4 h
            refine a_seq ?_
            refine a_run [2] tyOK (st1 := mk 71 [(2, bV false)] []) (by as_aux_lemma => kernel_rfl) ?_
            refine a_ret ?_
            obtain rfl := Option.some.inj h
            obtain rfl := zy2 _ rfl
            obtain rfl := zy1 _ rfl
            exact end_eq (res' := bV false) (by as_aux_lemma => kernel_rfl) (by first | rfl | simp)
          · replace h := cF h4 h
            refine a_skip ?_
            refine a_run [1, 17, 18, 19] tyOK (st1 := mk 71 [(1, pV 1), (17, lV 6 eLock p0.held), (18, iV (((((p0.held).map eLock).length : Nat) : Int))), (19, iV (IntKind.wrap .i64 (s1 + 1)))] [(1, [.bx [.fz (lC 6 eLock p0.held), .fz (lC 6 eLock p0.wait)]])]) (by as_aux_lemma => kernel_rfl) ?_
            obtain rfl := Option.some.inj h
            show ∃ _, _ ∧ Imp _ _ _
            refine ⟨_, rfl, ?_⟩
            exact imp_keepTo [1, 17, 18, 19] (by as_aux_lemma => kernel_rfl) (imp_done rfl)
        · replace h := cF h2 h
          refine a_exit ?_
          obtain rfl := Option.some.inj h
          obtain rfl := zy2 _ rfl
          show ∃ _, _ ∧ Imp _ _ _
          refine ⟨_, rfl, ?_⟩
          exact imp_keepTo [1] (by as_aux_lemma => kernel_rfl) (imp_done rfl)
      intro j2 hj2
      replace h := ky1 _ hj2
      refine a_seq ?_
      refine a_seq ?_
      refine a_run [1, 39, 40, 41] tyOK (st1 := mk 71 [(1, pV 1), (39, lV 6 eLock p0.wait), (40, iV (((((p0.wait).map eLock).length : Nat) : Int))), (41, iV 0)] [(1, [.bx [.fz (lC 6 eLock p0.held), .fz (lC 6 eLock p0.wait)]])]) (by as_aux_lemma => kernel_rfl) ?_
      obtain ⟨y4, h, ky4, zy4⟩ := bndS_e h
      refine a_joinT (ι := Unit) (fun j => mk 71 [] []) (fun j => y4 = .inl j) ?_ ?_
      · refine a_block ?_
        refine a_loopT (Bi_LocksOk_2 p0) (fun s2 => mk 71 [(1, pV 1), (39, lV 6 eLock p0.wait), (40, iV (((((p0.wait).map eLock).length : Nat) : Int))), (41, iV s2)] [(1, [.bx [.fz (lC 6 eLock p0.held), .fz (lC 6 eLock p0.wait)]])]) 0 h ?_ ?_
        · exact imp_keepTo [1, 39, 40, 41] (by as_aux_lemma => kernel_rfl) (imp_done rfl)
        intro s2 y5 h zy5
        unfold Bi_LocksOk_2 at h
        refine a_seq ?_
        refine a_run [1, 39, 40, 41, 42] tyOK (st1 := mk 71 [(1, pV 1), (39, lV 6 eLock p0.wait), (40, iV (((((p0.wait).map eLock).length : Nat) : Int))), (41, iV s2), (42, bV (decide (s2 < (((((p0.wait).map eLock).length : Nat) : Int)))))] [(1, [.bx [.fz (lC 6 eLock p0.held), .fz (lC 6 eLock p0.wait)]])]) (by as_aux_lemma => kernel_rfl) ?_
        refine a_seq ?_
        refine a_cond (b := decide (s2 < (((((p0.wait).map eLock).length : Nat) : Int)))) (by as_aux_lemma => kernel_rfl) (fun h5 => ?_) (fun h5 => ?_)
        · replace h := cT h5 h
          refine a_skip ?_
          refine a_seq ?_
          refine a_block ?_
          refine a_seq ?_
          refine a_ops [0, 1, 2, 3, 4, 5] (by as_aux_lemma => kernel_rfl) ?_
          refine ao_some [0] [1, 2, 3, 4, 5] [1, 39, 40, 41, 43] tyOK (st1 := mk 71 [(1, pV 1), (39, lV 6 eLock p0.wait), (40, iV (((((p0.wait).map eLock).length : Nat) : Int))), (41, iV s2), (43, iV s2)] [(1, [.bx [.fz (lC 6 eLock p0.held), .fz (lC 6 eLock p0.wait)]])]) (by as_aux_lemma => kernel_rfl) ?_
          obtain ⟨x2, ex2, h⟩ := bnd_e h
          refine ao_indexM (d := 44) (size := 6) (n := s2) (rows := (p0.wait).map eLock) (l1 := [(1, pV 1), (39, lV 6 eLock p0.wait), (40, iV (((((p0.wait).map eLock).length : Nat) : Int))), (41, iV s2), (43, iV s2), (44, .one (.fp [iC x2.tx.c, iC x2.tx.e, iC x2.tx.n, sC x2.range.lo, sC x2.range.hi, bC x2.ex] 0))]) (eLock x2) tyOK (by as_aux_lemma => kernel_rfl) (getI_e ex2).1 (show ((p0.wait).map eLock)[_]? = some _ from by rw [List.getElem?_map, (getI_e ex2).2]; rfl) (by as_aux_lemma => kernel_rfl) (by as_aux_lemma => kernel_rfl) ?_
          refine ao_some [2, 3, 4, 5] [] [1, 5, 6, 39, 40, 41] tyOK (st1 := mk 71 [(1, pV 1), (5, iV s2), (6, pV 6), (39, lV 6 eLock p0.wait), (40, iV (((((p0.wait).map eLock).length : Nat) : Int))), (41, iV s2)] [(1, [.bx [.fz (lC 6 eLock p0.held), .fz (lC 6 eLock p0.wait)]]), (6, [.bx [iC x2.tx.c, iC x2.tx.e, iC x2.tx.n, sC x2.range.lo, sC x2.range.hi, bC x2.ex]])]) (by as_aux_lemma => kernel_rfl) ?_
          refine ao_nil ?_
          refine a_seq ?_
          refine a_ops [0, 1, 2, 3, 4, 5, 6] (by as_aux_lemma => kernel_rfl) ?_
          refine ao_someM [0, 1, 2] [3, 4, 5, 6] tyOK (l1 := [(1, pV 1), (5, iV s2), (6, pV 6), (39, lV 6 eLock p0.wait), (40, iV (((((p0.wait).map eLock).length : Nat) : Int))), (41, iV s2), (47, lV 6 eLock p0.wait), (48, iV s2)]) (by as_aux_lemma => kernel_rfl) ?_
          obtain ⟨c2, h⟩ := chk_e h
          refine ao_q (d := 49) (c := (0 ≤ (0 : Int) ∧ (0 : Int) ≤ s2 ∧ s2 ≤ (((p0.wait).map eLock).length : Int) ∧ ((p0.wait).map eLock).all (fun r => r.length == 6) = true)) (tv := .one (.c (.sl 6 ((((p0.wait).map eLock).take s2.toNat).drop (0 : Int).toNat)))) (st1 := mk 71 [(1, pV 1), (5, iV s2), (6, pV 6), (39, lV 6 eLock p0.wait), (40, iV (((((p0.wait).map eLock).length : Nat) : Int))), (41, iV s2), (49, .one (.c (.sl 6 ((((p0.wait).map eLock).take s2.toNat).drop (0 : Int).toNat))))] [(1, [.bx [.fz (lC 6 eLock p0.held), .fz (lC 6 eLock p0.wait)]]), (6, [.bx [iC x2.tx.c, iC x2.tx.e, iC x2.tx.n, sC x2.range.lo, sC x2.range.hi, bC x2.ex]])]) [1, 5, 6, 39, 40, 41, 49] tyOK (by as_aux_lemma => kernel_rfl) (by simpa [eLock] using c2) (by as_aux_lemma => kernel_rfl) ?_
          refine ao_saysM (k := 49) (t := .one (.c (.sl 6 ((((p0.wait).map eLock).take s2.toNat).drop (0 : Int).toNat)))) (t' := lV 6 eLock (p0.wait.take ((s2).toNat))) (l1 := [(1, pV 1), (5, iV s2), (6, pV 6), (39, lV 6 eLock p0.wait), (40, iV (((((p0.wait).map eLock).length : Nat) : Int))), (41, iV s2), (49, lV 6 eLock (p0.wait.take ((s2).toNat)))]) (by as_aux_lemma => kernel_rfl) (by simp [List.map_take, List.map_drop]) (by as_aux_lemma => kernel_rfl) ?_
          refine ao_some [4, 5, 6] [] [1, 5, 6, 7, 39, 40, 41] tyOK (st1 := mk 71 [(1, pV 1), (5, iV s2), (6, pV 6), (7, pV 7), (39, lV 6 eLock p0.wait), (40, iV (((((p0.wait).map eLock).length : Nat) : Int))), (41, iV s2)] [(1, [.bx [.fz (lC 6 eLock p0.held), .fz (lC 6 eLock p0.wait)]]), (6, [.bx [iC x2.tx.c, iC x2.tx.e, iC x2.tx.n, sC x2.range.lo, sC x2.range.hi, bC x2.ex]]), (7, [.bx [.sl 6 ([]), .fz (lC 6 eLock (p0.wait.take ((s2).toNat)))]])]) (by as_aux_lemma => kernel_rfl) ?_
          refine ao_nil ?_
          refine a_seq ?_
          obtain ⟨y6, h, ky6⟩ := bndJ_e h
          refine a_joinT (ι := Bool) (fun j => mk 71 [(1, pV 1), (39, lV 6 eLock p0.wait), (40, iV (((((p0.wait).map eLock).length : Nat) : Int))), (41, iV s2), (69, bV j)] [(1, [.bx [.fz (lC 6 eLock p0.held), .fz (lC 6 eLock p0.wait)]])]) (fun j => y6 = j) ?_ ?_
          · rcases Bool.eq_false_or_eq_true (!(i_lockOk x2)) with h6 | h6
            · replace h := cT h6 h
              refine a_mid (mk 71 [(1, pV 1), (39, lV 6 eLock p0.wait), (40, iV (((((p0.wait).map eLock).length : Nat) : Int))), (41, iV s2), (69, bV true)] [(1, [.bx [.fz (lC 6 eLock p0.held), .fz (lC 6 eLock p0.wait)]])]) ?_ ?_
              · refine a_drawn (n := 19) [] (by as_aux_lemma => kernel_rfl) (by as_aux_lemma => kernel_rfl) ?_
                refine aa_take (fuel := 18) (listed' := #[true, false, false, false, false, false, false, false, false, false, false, false, false, false, false, false, false, false, false]) (st' := mk 71 [(1, pV 1), (5, iV s2), (6, pV 6), (7, pV 7), (39, lV 6 eLock p0.wait), (40, iV (((((p0.wait).map eLock).length : Nat) : Int))), (41, iV s2), (51, .agg [.c (iC x2.tx.c), .c (iC x2.tx.e), .c (iC x2.tx.n), .c (sC x2.range.lo), .c (sC x2.range.hi), .c (bC x2.ex)])] [(1, [.bx [.fz (lC 6 eLock p0.held), .fz (lC 6 eLock p0.wait)]]), (6, [.bx [iC x2.tx.c, iC x2.tx.e, iC x2.tx.n, sC x2.range.lo, sC x2.range.hi, bC x2.ex]]), (7, [.bx [.sl 6 ([]), .fz (lC 6 eLock (p0.wait.take ((s2).toNat)))]])]) [0] [1, 5, 6, 7, 39, 40, 41, 51] tyOK (by as_aux_lemma => kernel_rfl) (by as_aux_lemma => kernel_rfl) (by as_aux_lemma => kernel_rfl) ?_
                refine aa_all [1] (by as_aux_lemma => kernel_rfl) rfl ?_
                refine aa_cons ?_ aa_nil
                refine aone_enterM (listed' := #[true, true, false, false, false, false, false, false, false, false, false, false, false, false, false, false, false, false, false]) (f := 58) (d := 52) (A := [.agg [.c (iC x2.tx.c), .c (iC x2.tx.e), .c (iC x2.tx.n), .c (sC x2.range.lo), .c (sC x2.range.hi), .c (bC x2.ex)]]) (l1 := [(1, pV 1), (5, iV s2), (6, pV 6), (7, pV 7), (39, lV 6 eLock p0.wait), (40, iV (((((p0.wait).map eLock).length : Nat) : Int))), (41, iV s2), (52, bV (i_lockOk x2))]) (k_i_lockOk x2 _ rfl) Try.call58 (by as_aux_lemma => kernel_rfl) (by as_aux_lemma => kernel_rfl) (by as_aux_lemma => kernel_rfl) (by as_aux_lemma => kernel_rfl) ?_
                refine aa_takeM (fuel := 15) (listed' := #[true, true, true, true, false, false, false, false, false, false, false, false, false, false, false, false, false, false, false]) (l1 := [(1, pV 1), (5, iV s2), (6, pV 6), (7, pV 7), (39, lV 6 eLock p0.wait), (40, iV (((((p0.wait).map eLock).length : Nat) : Int))), (41, iV s2), (54, bV (!(i_lockOk x2)))]) [2, 3] tyOK (by as_aux_lemma => kernel_rfl) (by as_aux_lemma => kernel_rfl) (by as_aux_lemma => kernel_rfl) ?_
                refine aa_saysM (k := 54) (t := bV (!(i_lockOk x2))) (t' := bV true) (l1 := [(1, pV 1), (5, iV s2), (6, pV 6), (7, pV 7), (39, lV 6 eLock p0.wait), (40, iV (((((p0.wait).map eLock).length : Nat) : Int))), (41, iV s2), (54, bV true)]) (by as_aux_lemma => kernel_rfl) (by rw [h6]) (by as_aux_lemma => kernel_rfl) ?_
                refine aa_takeM (fuel := 13) (listed' := #[true, true, true, true, true, true, false, false, false, false, false, false, false, false, false, false, false, false, false]) (l1 := [(1, pV 1), (5, iV s2), (6, pV 6), (7, pV 7), (39, lV 6 eLock p0.wait), (40, iV (((((p0.wait).map eLock).length : Nat) : Int))), (41, iV s2), (54, bV true), (56, .tup [])]) [4, 5] tyOK (by as_aux_lemma => kernel_rfl) (by as_aux_lemma => kernel_rfl) (by as_aux_lemma => kernel_rfl) ?_
                refine aa_all [6] (by as_aux_lemma => kernel_rfl) rfl ?_
                refine aa_cons ?_ aa_nil
                refine aone_any (listed' := #[true, true, true, true, true, true, true, false, false, false, false, false, false, false, false, false, false, false, false]) (st1 := mk 71 [(1, pV 1), (5, iV s2), (6, pV 6), (39, lV 6 eLock p0.wait), (40, iV (((((p0.wait).map eLock).length : Nat) : Int))), (41, iV s2), (54, bV true), (57, .tup [])] [(1, [.bx [.fz (lC 6 eLock p0.held), .fz (lC 6 eLock p0.wait)]]), (6, [.bx [iC x2.tx.c, iC x2.tx.e, iC x2.tx.n, sC x2.range.lo, sC x2.range.hi, bC x2.ex]])]) [1, 5, 6, 39, 40, 41, 54, 57] tyOK (by as_aux_lemma => kernel_rfl) (by as_aux_lemma => kernel_rfl) ?_
                refine aa_take (fuel := 2) (listed' := #[true, true, true, true, true, true, true, true, true, true, true, true, true, true, true, true, true, false, false]) (st' := mk 71 [(1, pV 1), (39, lV 6 eLock p0.wait), (40, iV (((((p0.wait).map eLock).length : Nat) : Int))), (41, iV s2), (59, bV true), (60, .tup []), (67, .tup [])] [(1, [.bx [.fz (lC 6 eLock p0.held), .fz (lC 6 eLock p0.wait)]])]) [7, 8, 9, 10, 11, 12, 13, 14, 15, 16] [1, 39, 40, 41, 59, 60, 67] tyOK (by as_aux_lemma => kernel_rfl) (by as_aux_lemma => kernel_rfl) (by as_aux_lemma => kernel_rfl) ?_
                refine aa_all [17] (by as_aux_lemma => kernel_rfl) rfl ?_
                refine aa_cons ?_ aa_nil
                refine aone_anyM (listed' := #[true, true, true, true, true, true, true, true, true, true, true, true, true, true, true, true, true, true, false]) (l1 := [(1, pV 1), (39, lV 6 eLock p0.wait), (40, iV (((((p0.wait).map eLock).length : Nat) : Int))), (41, iV s2), (59, bV true), (68, .tup [])]) tyOK (by as_aux_lemma => kernel_rfl) (by as_aux_lemma => kernel_rfl) ?_
                refine aa_takeM (fuel := 0) (listed' := #[true, true, true, true, true, true, true, true, true, true, true, true, true, true, true, true, true, true, true]) (l1 := [(1, pV 1), (39, lV 6 eLock p0.wait), (40, iV (((((p0.wait).map eLock).length : Nat) : Int))), (41, iV s2), (69, bV true)]) [18] tyOK (by as_aux_lemma => kernel_rfl) (by as_aux_lemma => kernel_rfl) (by as_aux_lemma => kernel_rfl) ?_
                refine aa_done (by as_aux_lemma => kernel_rfl) ?_
                show _ = _; kernel_rfl
              obtain rfl := Option.some.inj h
              show ∃ _, _ ∧ Imp _ _ _
              refine ⟨_, rfl, ?_⟩
              exact imp_keepTo [1, 39, 40, 41, 69] (by as_aux_lemma => kernel_rfl) (imp_done rfl)
            · replace h := cF h6 h
              obtain ⟨r2, er2, h⟩ := bnd_e h
              rcases Bool.eq_false_or_eq_true (r2) with h7 | h7
              · replace h := cT h7 h
                refine a_mid (mk 71 [(1, pV 1), (39, lV 6 eLock p0.wait), (40, iV (((((p0.wait).map eLock).length : Nat) : Int))), (41, iV s2), (69, bV true)] [(1, [.bx [.fz (lC 6 eLock p0.held), .fz (lC 6 eLock p0.wait)]])]) ?_ ?_
                · refine a_drawn (n := 19) [] (by as_aux_lemma => kernel_rfl) (by as_aux_lemma => kernel_rfl) ?_
                  refine aa_take (fuel := 18) (listed' := #[true, false, false, false, false, false, false, false, false, false, false, false, false, false, false, false, false, false, false]) (st' := mk 71 [(1, pV 1), (5, iV s2), (6, pV 6), (7, pV 7), (39, lV 6 eLock p0.wait), (40, iV (((((p0.wait).map eLock).length : Nat) : Int))), (41, iV s2), (51, .agg [.c (iC x2.tx.c), .c (iC x2.tx.e), .c (iC x2.tx.n), .c (sC x2.range.lo), .c (sC x2.range.hi), .c (bC x2.ex)])] [(1, [.bx [.fz (lC 6 eLock p0.held), .fz (lC 6 eLock p0.wait)]]), (6, [.bx [iC x2.tx.c, iC x2.tx.e, iC x2.tx.n, sC x2.range.lo, sC x2.range.hi, bC x2.ex]]), (7, [.bx [.sl 6 ([]), .fz (lC 6 eLock (p0.wait.take ((s2).toNat)))]])]) [0] [1, 5, 6, 7, 39, 40, 41, 51] tyOK (by as_aux_lemma => kernel_rfl) (by as_aux_lemma => kernel_rfl) (by as_aux_lemma => kernel_rfl) ?_
                  refine aa_all [1] (by as_aux_lemma => kernel_rfl) rfl ?_
                  refine aa_cons ?_ aa_nil
                  refine aone_enterM (listed' := #[true, true, false, false, false, false, false, false, false, false, false, false, false, false, false, false, false, false, false]) (f := 58) (d := 52) (A := [.agg [.c (iC x2.tx.c), .c (iC x2.tx.e), .c (iC x2.tx.n), .c (sC x2.range.lo), .c (sC x2.range.hi), .c (bC x2.ex)]]) (l1 := [(1, pV 1), (5, iV s2), (6, pV 6), (7, pV 7), (39, lV 6 eLock p0.wait), (40, iV (((((p0.wait).map eLock).length : Nat) : Int))), (41, iV s2), (52, bV (i_lockOk x2))]) (k_i_lockOk x2 _ rfl) Try.call58 (by as_aux_lemma => kernel_rfl) (by as_aux_lemma => kernel_rfl) (by as_aux_lemma => kernel_rfl) (by as_aux_lemma => kernel_rfl) ?_
                  refine aa_takeM (fuel := 15) (listed' := #[true, true, true, true, false, false, false, false, false, false, false, false, false, false, false, false, false, false, false]) (l1 := [(1, pV 1), (5, iV s2), (6, pV 6), (7, pV 7), (39, lV 6 eLock p0.wait), (40, iV (((((p0.wait).map eLock).length : Nat) : Int))), (41, iV s2), (54, bV (!(i_lockOk x2)))]) [2, 3] tyOK (by as_aux_lemma => kernel_rfl) (by as_aux_lemma => kernel_rfl) (by as_aux_lemma => kernel_rfl) ?_
                  refine aa_saysM (k := 54) (t := bV (!(i_lockOk x2))) (t' := bV false) (l1 := [(1, pV 1), (5, iV s2), (6, pV 6), (7, pV 7), (39, lV 6 eLock p0.wait), (40, iV (((((p0.wait).map eLock).length : Nat) : Int))), (41, iV s2), (54, bV false)]) (by as_aux_lemma => kernel_rfl) (by rw [h6]) (by as_aux_lemma => kernel_rfl) ?_
                  refine aa_takeM (fuel := 13) (listed' := #[true, true, true, true, true, true, false, false, false, false, false, false, false, false, false, false, false, false, false]) (l1 := [(1, pV 1), (5, iV s2), (6, pV 6), (7, pV 7), (39, lV 6 eLock p0.wait), (40, iV (((((p0.wait).map eLock).length : Nat) : Int))), (41, iV s2), (54, bV false), (56, .agg [.c (iC x2.tx.c), .c (iC x2.tx.e), .c (iC x2.tx.n)])]) [4, 5] tyOK (by as_aux_lemma => kernel_rfl) (by as_aux_lemma => kernel_rfl) (by as_aux_lemma => kernel_rfl) ?_
                  refine aa_all [6] (by as_aux_lemma => kernel_rfl) rfl ?_
                  refine aa_cons ?_ aa_nil
                  refine aone_lend (listed' := #[true, true, true, true, true, true, true, false, false, false, false, false, false, false, false, false, false, false, false]) (f := 68) (d := 57) (A := [pV 7, .agg [.c (iC x2.tx.c), .c (iC x2.tx.e), .c (iC x2.tx.n)]]) (A' := [.one (.c (.bx [.sl 6 ([]), lC 6 eLock (p0.wait.take ((s2).toNat))])), .agg [.c (iC x2.tx.c), .c (iC x2.tx.e), .c (iC x2.tx.n)]]) (st1 := mk 71 [(1, pV 1), (5, iV s2), (6, pV 6), (39, lV 6 eLock p0.wait), (40, iV (((((p0.wait).map eLock).length : Nat) : Int))), (41, iV s2), (54, bV false), (57, bV r2)] [(1, [.bx [.fz (lC 6 eLock p0.held), .fz (lC 6 eLock p0.wait)]]), (6, [.bx [iC x2.tx.c, iC x2.tx.e, iC x2.tx.n, sC x2.range.lo, sC x2.range.hi, bC x2.ex]])]) [1, 5, 6, 39, 40, 41, 54, 57] (k_i_Locks_waits ((⟨[], p0.wait.take ((s2).toNat)⟩ : Locks)) x2.tx r2 er2) Try.call68 (by as_aux_lemma => kernel_rfl) (.cons (.one (.imp (lend_bx [] 7 0 rfl (by as_aux_lemma => kernel_rfl)) (.bx (.cons .same (.cons (.fz .same) .nil))))) (.cons (.agg (.cons (.same rfl) (.cons (.same rfl) (.cons (.same rfl) .nil)))) .nil)) (by as_aux_lemma => kernel_rfl) (clean_nil) (by as_aux_lemma => kernel_rfl) (by as_aux_lemma => kernel_rfl) (by as_aux_lemma => kernel_rfl) ?_
                  refine aa_takeM (fuel := 10) (listed' := #[true, true, true, true, true, true, true, true, true, false, false, false, false, false, false, false, false, false, false]) (l1 := [(1, pV 1), (5, iV s2), (6, pV 6), (39, lV 6 eLock p0.wait), (40, iV (((((p0.wait).map eLock).length : Nat) : Int))), (41, iV s2), (59, bV r2)]) [7, 8] tyOK (by as_aux_lemma => kernel_rfl) (by as_aux_lemma => kernel_rfl) (by as_aux_lemma => kernel_rfl) ?_
                  refine aa_saysM (k := 59) (t := bV r2) (t' := bV true) (l1 := [(1, pV 1), (5, iV s2), (6, pV 6), (39, lV 6 eLock p0.wait), (40, iV (((((p0.wait).map eLock).length : Nat) : Int))), (41, iV s2), (59, bV true)]) (by as_aux_lemma => kernel_rfl) (by rw [h7]) (by as_aux_lemma => kernel_rfl) ?_
                  refine aa_take (fuel := 2) (listed' := #[true, true, true, true, true, true, true, true, true, true, true, true, true, true, true, true, true, false, false]) (st' := mk 71 [(1, pV 1), (39, lV 6 eLock p0.wait), (40, iV (((((p0.wait).map eLock).length : Nat) : Int))), (41, iV s2), (59, bV true), (60, .tup []), (67, .tup [])] [(1, [.bx [.fz (lC 6 eLock p0.held), .fz (lC 6 eLock p0.wait)]])]) [9, 10, 11, 12, 13, 14, 15, 16] [1, 39, 40, 41, 59, 60, 67] tyOK (by as_aux_lemma => kernel_rfl) (by as_aux_lemma => kernel_rfl) (by as_aux_lemma => kernel_rfl) ?_
                  refine aa_all [17] (by as_aux_lemma => kernel_rfl) rfl ?_
                  refine aa_cons ?_ aa_nil
                  refine aone_anyM (listed' := #[true, true, true, true, true, true, true, true, true, true, true, true, true, true, true, true, true, true, false]) (l1 := [(1, pV 1), (39, lV 6 eLock p0.wait), (40, iV (((((p0.wait).map eLock).length : Nat) : Int))), (41, iV s2), (59, bV true), (68, .tup [])]) tyOK (by as_aux_lemma => kernel_rfl) (by as_aux_lemma => kernel_rfl) ?_
                  refine aa_takeM (fuel := 0) (listed' := #[true, true, true, true, true, true, true, true, true, true, true, true, true, true, true, true, true, true, true]) (l1 := [(1, pV 1), (39, lV 6 eLock p0.wait), (40, iV (((((p0.wait).map eLock).length : Nat) : Int))), (41, iV s2), (69, bV true)]) [18] tyOK (by as_aux_lemma => kernel_rfl) (by as_aux_lemma => kernel_rfl) (by as_aux_lemma => kernel_rfl) ?_
                  refine aa_done (by as_aux_lemma => kernel_rfl) ?_
                  show _ = _; kernel_rfl
                obtain rfl := Option.some.inj h
                show ∃ _, _ ∧ Imp _ _ _
                refine ⟨_, rfl, ?_⟩
                exact imp_keepTo [1, 39, 40, 41, 69] (by as_aux_lemma => kernel_rfl) (imp_done rfl)
              · replace h := cF h7 h
                obtain ⟨c3, h⟩ := chk_e h
                obtain ⟨r3, er3, h⟩ := bnd_e h
                refine a_mid (mk 71 [(1, pV 1), (39, lV 6 eLock p0.wait), (40, iV (((((p0.wait).map eLock).length : Nat) : Int))), (41, iV s2), (69, bV r3)] [(1, [.bx [.fz (lC 6 eLock p0.held), .fz (lC 6 eLock p0.wait)]])]) ?_ ?_
                · refine a_drawn (n := 19) [] (by as_aux_lemma => kernel_rfl) (by as_aux_lemma => kernel_rfl) ?_
                  refine aa_take (fuel := 18) (listed' := #[true, false, false, false, false, false, false, false, false, false, false, false, false, false, false, false, false, false, false]) (st' := mk 71 [(1, pV 1), (5, iV s2), (6, pV 6), (7, pV 7), (39, lV 6 eLock p0.wait), (40, iV (((((p0.wait).map eLock).length : Nat) : Int))), (41, iV s2), (51, .agg [.c (iC x2.tx.c), .c (iC x2.tx.e), .c (iC x2.tx.n), .c (sC x2.range.lo), .c (sC x2.range.hi), .c (bC x2.ex)])] [(1, [.bx [.fz (lC 6 eLock p0.held), .fz (lC 6 eLock p0.wait)]]), (6, [.bx [iC x2.tx.c, iC x2.tx.e, iC x2.tx.n, sC x2.range.lo, sC x2.range.hi, bC x2.ex]]), (7, [.bx [.sl 6 ([]), .fz (lC 6 eLock (p0.wait.take ((s2).toNat)))]])]) [0] [1, 5, 6, 7, 39, 40, 41, 51] tyOK (by as_aux_lemma => kernel_rfl) (by as_aux_lemma => kernel_rfl) (by as_aux_lemma => kernel_rfl) ?_
                  refine aa_all [1] (by as_aux_lemma => kernel_rfl) rfl ?_
                  refine aa_cons ?_ aa_nil
                  refine aone_enterM (listed' := #[true, true, false, false, false, false, false, false, false, false, false, false, false, false, false, false, false, false, false]) (f := 58) (d := 52) (A := [.agg [.c (iC x2.tx.c), .c (iC x2.tx.e), .c (iC x2.tx.n), .c (sC x2.range.lo), .c (sC x2.range.hi), .c (bC x2.ex)]]) (l1 := [(1, pV 1), (5, iV s2), (6, pV 6), (7, pV 7), (39, lV 6 eLock p0.wait), (40, iV (((((p0.wait).map eLock).length : Nat) : Int))), (41, iV s2), (52, bV (i_lockOk x2))]) (k_i_lockOk x2 _ rfl) Try.call58 (by as_aux_lemma => kernel_rfl) (by as_aux_lemma => kernel_rfl) (by as_aux_lemma => kernel_rfl) (by as_aux_lemma => kernel_rfl) ?_
                  refine aa_takeM (fuel := 15) (listed' := #[true, true, true, true, false, false, false, false, false, false, false, false, false, false, false, false, false, false, false]) (l1 := [(1, pV 1), (5, iV s2), (6, pV 6), (7, pV 7), (39, lV 6 eLock p0.wait), (40, iV (((((p0.wait).map eLock).length : Nat) : Int))), (41, iV s2), (54, bV (!(i_lockOk x2)))]) [2, 3] tyOK (by as_aux_lemma => kernel_rfl) (by as_aux_lemma => kernel_rfl) (by as_aux_lemma => kernel_rfl) ?_
                  refine aa_saysM (k := 54) (t := bV (!(i_lockOk x2))) (t' := bV false) (l1 := [(1, pV 1), (5, iV s2), (6, pV 6), (7, pV 7), (39, lV 6 eLock p0.wait), (40, iV (((((p0.wait).map eLock).length : Nat) : Int))), (41, iV s2), (54, bV false)]) (by as_aux_lemma => kernel_rfl) (by rw [h6]) (by as_aux_lemma => kernel_rfl) ?_
                  refine aa_takeM (fuel := 13) (listed' := #[true, true, true, true, true, true, false, false, false, false, false, false, false, false, false, false, false, false, false]) (l1 := [(1, pV 1), (5, iV s2), (6, pV 6), (7, pV 7), (39, lV 6 eLock p0.wait), (40, iV (((((p0.wait).map eLock).length : Nat) : Int))), (41, iV s2), (54, bV false), (56, .agg [.c (iC x2.tx.c), .c (iC x2.tx.e), .c (iC x2.tx.n)])]) [4, 5] tyOK (by as_aux_lemma => kernel_rfl) (by as_aux_lemma => kernel_rfl) (by as_aux_lemma => kernel_rfl) ?_
                  refine aa_all [6] (by as_aux_lemma => kernel_rfl) rfl ?_
                  refine aa_cons ?_ aa_nil
                  refine aone_lend (listed' := #[true, true, true, true, true, true, true, false, false, false, false, false, false, false, false, false, false, false, false]) (f := 68) (d := 57) (A := [pV 7, .agg [.c (iC x2.tx.c), .c (iC x2.tx.e), .c (iC x2.tx.n)]]) (A' := [.one (.c (.bx [.sl 6 ([]), lC 6 eLock (p0.wait.take ((s2).toNat))])), .agg [.c (iC x2.tx.c), .c (iC x2.tx.e), .c (iC x2.tx.n)]]) (st1 := mk 71 [(1, pV 1), (5, iV s2), (6, pV 6), (39, lV 6 eLock p0.wait), (40, iV (((((p0.wait).map eLock).length : Nat) : Int))), (41, iV s2), (54, bV false), (57, bV r2)] [(1, [.bx [.fz (lC 6 eLock p0.held), .fz (lC 6 eLock p0.wait)]]), (6, [.bx [iC x2.tx.c, iC x2.tx.e, iC x2.tx.n, sC x2.range.lo, sC x2.range.hi, bC x2.ex]])]) [1, 5, 6, 39, 40, 41, 54, 57] (k_i_Locks_waits ((⟨[], p0.wait.take ((s2).toNat)⟩ : Locks)) x2.tx r2 er2) Try.call68 (by as_aux_lemma => kernel_rfl) (.cons (.one (.imp (lend_bx [] 7 0 rfl (by as_aux_lemma => kernel_rfl)) (.bx (.cons .same (.cons (.fz .same) .nil))))) (.cons (.agg (.cons (.same rfl) (.cons (.same rfl) (.cons (.same rfl) .nil)))) .nil)) (by as_aux_lemma => kernel_rfl) (clean_nil) (by as_aux_lemma => kernel_rfl) (by as_aux_lemma => kernel_rfl) (by as_aux_lemma => kernel_rfl) ?_
                  refine aa_takeM (fuel := 10) (listed' := #[true, true, true, true, true, true, true, true, true, false, false, false, false, false, false, false, false, false, false]) (l1 := [(1, pV 1), (5, iV s2), (6, pV 6), (39, lV 6 eLock p0.wait), (40, iV (((((p0.wait).map eLock).length : Nat) : Int))), (41, iV s2), (59, bV r2)]) [7, 8] tyOK (by as_aux_lemma => kernel_rfl) (by as_aux_lemma => kernel_rfl) (by as_aux_lemma => kernel_rfl) ?_
                  refine aa_saysM (k := 59) (t := bV r2) (t' := bV false) (l1 := [(1, pV 1), (5, iV s2), (6, pV 6), (39, lV 6 eLock p0.wait), (40, iV (((((p0.wait).map eLock).length : Nat) : Int))), (41, iV s2), (59, bV false)]) (by as_aux_lemma => kernel_rfl) (by rw [h7]) (by as_aux_lemma => kernel_rfl) ?_
                  refine aa_take (fuel := 4) (listed' := #[true, true, true, true, true, true, true, true, true, true, true, true, true, true, true, false, false, false, false]) (st' := mk 71 [(1, pV 1), (39, lV 6 eLock p0.wait), (40, iV (((((p0.wait).map eLock).length : Nat) : Int))), (41, iV s2), (59, bV false), (60, .agg [.c (iC x2.tx.c), .c (iC x2.tx.e), .c (iC x2.tx.n), .c (sC x2.range.lo), .c (sC x2.range.hi), .c (bC x2.ex)]), (62, lV 6 eLock p0.held), (64, lV 6 eLock p0.wait), (65, iV s2)] [(1, [.bx [.fz (lC 6 eLock p0.held), .fz (lC 6 eLock p0.wait)]])]) [9, 10, 11, 12, 13, 14] [1, 39, 40, 41, 59, 60, 62, 64, 65] tyOK (by as_aux_lemma => kernel_rfl) (by as_aux_lemma => kernel_rfl) (by as_aux_lemma => kernel_rfl) ?_
                  refine aa_q (i := 15) (d := 66) (c := (0 ≤ (0 : Int) ∧ (0 : Int) ≤ s2 ∧ s2 ≤ (((p0.wait).map eLock).length : Int) ∧ ((p0.wait).map eLock).all (fun r => r.length == 6) = true)) (tv := .one (.c (.sl 6 ((((p0.wait).map eLock).take s2.toNat).drop (0 : Int).toNat)))) (listed' := #[true, true, true, true, true, true, true, true, true, true, true, true, true, true, true, true, false, false, false]) (st1 := mk 71 [(1, pV 1), (39, lV 6 eLock p0.wait), (40, iV (((((p0.wait).map eLock).length : Nat) : Int))), (41, iV s2), (59, bV false), (60, .agg [.c (iC x2.tx.c), .c (iC x2.tx.e), .c (iC x2.tx.n), .c (sC x2.range.lo), .c (sC x2.range.hi), .c (bC x2.ex)]), (62, lV 6 eLock p0.held), (66, .one (.c (.sl 6 ((((p0.wait).map eLock).take s2.toNat).drop (0 : Int).toNat))))] [(1, [.bx [.fz (lC 6 eLock p0.held), .fz (lC 6 eLock p0.wait)]])]) [1, 39, 40, 41, 59, 60, 62, 66] tyOK (by as_aux_lemma => kernel_rfl) (by as_aux_lemma => kernel_rfl) (by simpa [eLock] using c3) (by as_aux_lemma => kernel_rfl) (by as_aux_lemma => kernel_rfl) (by as_aux_lemma => kernel_rfl) ?_
                  refine aa_saysM (k := 66) (t := .one (.c (.sl 6 ((((p0.wait).map eLock).take s2.toNat).drop (0 : Int).toNat)))) (t' := lV 6 eLock (p0.wait.take ((s2).toNat))) (l1 := [(1, pV 1), (39, lV 6 eLock p0.wait), (40, iV (((((p0.wait).map eLock).length : Nat) : Int))), (41, iV s2), (59, bV false), (60, .agg [.c (iC x2.tx.c), .c (iC x2.tx.e), .c (iC x2.tx.n), .c (sC x2.range.lo), .c (sC x2.range.hi), .c (bC x2.ex)]), (62, lV 6 eLock p0.held), (66, lV 6 eLock (p0.wait.take ((s2).toNat)))]) (by as_aux_lemma => kernel_rfl) (by simp [List.map_take, List.map_drop]) (by as_aux_lemma => kernel_rfl) ?_
                  refine aa_all [16] (by as_aux_lemma => kernel_rfl) rfl ?_
                  refine aa_cons ?_ aa_nil
                  refine aone_rows (d := 67) (d' := 68) (sz := 1) (f := 67) (xs := [.tmp 60, .tmp 67]) (ts := [[.c (lC 6 eLock p0.held)], [.c (lC 6 eLock (p0.wait.take ((s2).toNat)))]]) (tl := [.c (lC 6 eLock p0.held), .c (lC 6 eLock (p0.wait.take ((s2).toNat)))]) (rows := [[lC 6 eLock p0.held], [lC 6 eLock (p0.wait.take ((s2).toNat))]]) (cl := [lC 6 eLock p0.held, lC 6 eLock (p0.wait.take ((s2).toNat))]) (A' := [.agg [.c (iC x2.tx.c), .c (iC x2.tx.e), .c (iC x2.tx.n), .c (sC x2.range.lo), .c (sC x2.range.hi), .c (bC x2.ex)], .one (.c (.sl 1 ([[lC 6 eLock p0.held], [lC 6 eLock (p0.wait.take ((s2).toNat))]])))]) (st1 := mk 71 [(1, pV 1), (39, lV 6 eLock p0.wait), (40, iV (((((p0.wait).map eLock).length : Nat) : Int))), (41, iV s2), (59, bV false), (68, bV r3)] [(1, [.bx [.fz (lC 6 eLock p0.held), .fz (lC 6 eLock p0.wait)]])]) (j := 17) (fuel := 1) (listed1 := #[true, true, true, true, true, true, true, true, true, true, true, true, true, true, true, true, true, false, false]) (listed2 := #[true, true, true, true, true, true, true, true, true, true, true, true, true, true, true, true, true, true, false]) [1, 39, 40, 41, 59, 68] tyOK (k_i_isFree x2 ([p0.held, p0.wait.take ((s2).toNat)]) r3 er3) Try.call67 (by as_aux_lemma => kernel_rfl) (by as_aux_lemma => kernel_rfl) (by as_aux_lemma => kernel_rfl) (.cons (.same rfl) (.cons (.same rfl) .nil)) (by as_aux_lemma => kernel_rfl) (by as_aux_lemma => kernel_rfl) (.cons rfl (by as_aux_lemma => kernel_rfl) (.agg (.cons (.same rfl) (.cons (.same rfl) (.cons (.same rfl) (.cons (.same rfl) (.cons (.same rfl) (.cons (.same rfl) .nil))))))) (.hd .nil)) (by as_aux_lemma => kernel_rfl) clean_nil (by as_aux_lemma => kernel_rfl) (by as_aux_lemma => kernel_rfl) (by as_aux_lemma => kernel_rfl) (by as_aux_lemma => kernel_rfl) (by as_aux_lemma => kernel_rfl) ?_
                  refine aa_takeM (fuel := 0) (listed' := #[true, true, true, true, true, true, true, true, true, true, true, true, true, true, true, true, true, true, true]) (l1 := [(1, pV 1), (39, lV 6 eLock p0.wait), (40, iV (((((p0.wait).map eLock).length : Nat) : Int))), (41, iV s2), (69, bV r3)]) [18] tyOK (by as_aux_lemma => kernel_rfl) (by as_aux_lemma => kernel_rfl) (by as_aux_lemma => kernel_rfl) ?_
                  refine aa_done (by as_aux_lemma => kernel_rfl) ?_
                  show _ = _; kernel_rfl
                obtain rfl := Option.some.inj h
                show ∃ _, _ ∧ Imp _ _ _
                refine ⟨_, rfl, ?_⟩
                exact imp_keepTo [1, 39, 40, 41, 69] (by as_aux_lemma => kernel_rfl) (imp_done rfl)
          intro j3 hj3
          replace h := ky6 _ hj3
          refine a_cond (b := j3) (by as_aux_lemma => kernel_rfl) (fun h8 => ?_) (fun h8 => ?_)
          · replace h := cT h8 h
            refine a_seq ?_
            refine a_run [2] tyOK (st1 := mk 71 [(2, bV false)] []) (by as_aux_lemma => kernel_rfl) ?_
            refine a_ret ?_
            obtain rfl := Option.some.inj h
            obtain rfl := zy5 _ rfl
            obtain rfl := zy4 _ rfl
            exact end_eq (res' := bV false) (by as_aux_lemma => kernel_rfl) (by first | rfl | simp)
          · replace h := cF h8 h
            refine a_skip ?_
            refine a_run [1, 39, 40, 41] tyOK (st1 := mk 71 [(1, pV 1), (39, lV 6 eLock p0.wait), (40, iV (((((p0.wait).map eLock).length : Nat) : Int))), (41, iV (IntKind.wrap .i64 (s2 + 1)))] [(1, [.bx [.fz (lC 6 eLock p0.held), .fz (lC 6 eLock p0.wait)]])]) (by as_aux_lemma => kernel_rfl) ?_
            obtain rfl := Option.some.inj h
            show ∃ _, _ ∧ Imp _ _ _
            refine ⟨_, rfl, ?_⟩
            exact imp_keepTo [1, 39, 40, 41] (by as_aux_lemma => kernel_rfl) (imp_done rfl)
        · replace h := cF h5 h
          refine a_exit ?_
          obtain rfl := Option.some.inj h
          obtain rfl := zy5 _ rfl
          show ∃ _, _ ∧ Imp _ _ _
          refine ⟨_, rfl, ?_⟩
          exact imp_keepTo [] (by as_aux_lemma => kernel_rfl) (imp_done rfl)
      intro j4 hj4
      replace h := ky4 _ hj4
      refine a_seq ?_
      refine a_run [2] tyOK (st1 := mk 71 [(2, bV true)] []) (by as_aux_lemma => kernel_rfl) ?_
      refine a_ret ?_
      obtain rfl := Option.some.inj h
      exact end_eq (res' := bV true) (by as_aux_lemma => kernel_rfl) (by first | rfl | simp)


end Go.Proofs.Ytagoajkiccgmjaa
namespace Go.Proofs.Ytagoajkiccgmjaa
open Go.Mv Go.RowKit
noncomputable def i_copyLocks (p0 : Locks) : Option (Locks) :=
 chk (((([] : List Lock)).length + (p0.held).length) * 64 ≤ 140737488355328) <|
 chk (((([] : List Lock)).length + (p0.wait).length) * 64 ≤ 140737488355328) <|
 some p0
set_option maxHeartbeats 4000000 in
/-- impl.copyLocks -/
theorem k_i_copyLocks (p0 : Locks) (v : Locks) (h : i_copyLocks p0 = some v) : CallOK Try.prog 59 [.agg [.c (lC 6 eLock p0.held), .c (lC 6 eLock p0.wait)]] (.agg [.so [] 0 0 ((v.held).length), .so [] 0 1 ((v.wait).length)]) [lC 6 eLock v.held, lC 6 eLock v.wait] :=
  callOK tyOK Try.func59 rfl fun w S hS => by
    unfold i_copyLocks at h
    refine a_seq ?_
    refine a_run [1, 2] tyOK (st1 := mk 10 [(1, pV 1), (2, pV 2)] [(1, [.bx [.fz (lC 6 eLock p0.held), .fz (lC 6 eLock p0.wait)]]), (2, [.bx [.sl 6 ([]), .sl 6 ([])]])]) (by kernel_rfl) ?_
    refine a_seq ?_
    obtain ⟨c1, h⟩ := chk_e h
    obtain ⟨c2, h⟩ := chk_e h
    refine a_mid (mk 10 [(2, pV 2)] [(2, [.bx [lC 6 eLock p0.held, lC 6 eLock p0.wait]])]) ?_ ?_
    · refine a_drawn (n := 8) [2, 5, 7] (by kernel_rfl) (by kernel_rfl) ?_
      refine aa_with (fun K to of => ?_)
      have k1 : K 2 #[true, true, true, true, true, true, false, false] (mk 10 [(2, pV 2), (5, .one (.so [] 5 0 ((p0.held).length))), (8, .one (.so [] 8 0 ((p0.wait).length)))] [(2, [.bx [.sl 6 ([]), .sl 6 ([])]]), (5, [lC 6 eLock p0.held]), (8, [lC 6 eLock p0.wait])]) := of (by
        refine aa_all [6] (by kernel_rfl) rfl ?_
        refine aa_cons ?_ aa_nil
        refine aone_anyM (listed' := #[true, true, true, true, true, true, true, false]) (l1 := [(2, pV 2), (9, .agg [.so [] 5 0 ((p0.held).length), .so [] 8 0 ((p0.wait).length)])]) tyOK (by kernel_rfl) (by kernel_rfl) ?_
        refine aa_all [7] (by kernel_rfl) rfl ?_
        refine aa_cons ?_ aa_nil
        refine aone_o (ob := [(((p0.held).map eLock).length, (p0.held).length), (((p0.wait).map eLock).length, (p0.wait).length)]) (listed' := #[true, true, true, true, true, true, true, true]) (st1 := mk 10 [(2, pV 2)] [(2, [.bx [lC 6 eLock p0.held, lC 6 eLock p0.wait]])]) [2] tyOK (by kernel_rfl) ⟨by simp, by simp, trivial⟩ (by kernel_rfl) (by kernel_rfl) ?_
        refine aa_done (by kernel_rfl) ?_
        show _ = _; kernel_rfl)
      refine aa_takeM (fuel := 6) (listed' := #[true, true, false, false, false, false, false, false]) (l1 := [(1, pV 1), (2, pV 2), (4, lV 6 eLock p0.held)]) [0, 1] tyOK (by kernel_rfl) (by kernel_rfl) (by kernel_rfl) ?_
      refine aa_takePM (fuel := 5) (listed' := #[true, true, false, true, false, false, false, false]) (l1 := [(2, pV 2), (4, lV 6 eLock p0.held), (6, .one (.pl [(1, 0)] 0 1))]) [3] tyOK (by kernel_rfl) (by kernel_rfl) (by kernel_rfl) ?_
      refine aa_all [2, 4] (by kernel_rfl) rfl ?_
      refine aa_cons ?_ ?_
      · refine aone_append (listed' := #[true, true, true, true, false, false, false, false]) (d := 5) (n := 0) (n' := ((p0.held).length)) (bytes := 64) (size := 6) (src := none) (rows := []) (tx := lV 6 eLock p0.held) (new := ((p0.held).map eLock).map (List.map frzC)) (rows' := (p0.held).map eLock) (st1 := mk 10 [(2, pV 2), (5, .one (.so [] 5 0 ((p0.held).length))), (6, .one (.pl [(1, 0)] 0 1))] [(1, [.bx [.fz (lC 6 eLock p0.held), .fz (lC 6 eLock p0.wait)]]), (2, [.bx [.sl 6 ([]), .sl 6 ([])]]), (5, [lC 6 eLock p0.held])]) [2, 5, 6] tyOK (by kernel_rfl) (appRows_fz (by simp [bC, eLock, eRange, eTx, frzC, iC, sC])) (by simp) (by simpa using c1) (by kernel_rfl) (by simp [bC, eLock, eRange, eTx, frzC, iC, sC]) (by simp) (by kernel_rfl) (by kernel_rfl) (by kernel_rfl) ?_
        refine aa_take (fuel := 3) (listed' := #[true, true, true, true, true, false, false, false]) (st' := mk 10 [(2, pV 2), (5, .one (.so [] 5 0 ((p0.held).length))), (7, lV 6 eLock p0.wait)] [(2, [.bx [.sl 6 ([]), .sl 6 ([])]]), (5, [lC 6 eLock p0.held])]) [4] [2, 5, 7] tyOK (by kernel_rfl) (by kernel_rfl) (by kernel_rfl) ?_
        refine aa_all [5] (by kernel_rfl) rfl ?_
        refine aa_cons ?_ aa_nil
        refine aone_append (listed' := #[true, true, true, true, true, true, false, false]) (d := 8) (n := 0) (n' := ((p0.wait).length)) (bytes := 64) (size := 6) (src := none) (rows := []) (tx := lV 6 eLock p0.wait) (new := ((p0.wait).map eLock).map (List.map frzC)) (rows' := (p0.wait).map eLock) (st1 := mk 10 [(2, pV 2), (5, .one (.so [] 5 0 ((p0.held).length))), (8, .one (.so [] 8 0 ((p0.wait).length)))] [(2, [.bx [.sl 6 ([]), .sl 6 ([])]]), (5, [lC 6 eLock p0.held]), (8, [lC 6 eLock p0.wait])]) [2, 5, 8] tyOK (by kernel_rfl) (appRows_fz (by simp [bC, eLock, eRange, eTx, frzC, iC, sC])) (by simp) (by simpa using c2) (by kernel_rfl) (by simp [bC, eLock, eRange, eTx, frzC, iC, sC]) (by simp) (by kernel_rfl) (by kernel_rfl) (by kernel_rfl) ?_
        exact to k1
      refine aa_cons ?_ aa_nil
      refine aone_any (listed' := #[true, true, false, true, true, false, false, false]) (st1 := mk 10 [(2, pV 2), (4, lV 6 eLock p0.held), (7, lV 6 eLock p0.wait)] [(2, [.bx [.sl 6 ([]), .sl 6 ([])]])]) [2, 4, 7] tyOK (by kernel_rfl) (by kernel_rfl) ?_
      refine aa_all [2] (by kernel_rfl) rfl ?_
      refine aa_cons ?_ aa_nil
      refine aone_append (listed' := #[true, true, true, true, true, false, false, false]) (d := 5) (n := 0) (n' := ((p0.held).length)) (bytes := 64) (size := 6) (src := none) (rows := []) (tx := lV 6 eLock p0.held) (new := ((p0.held).map eLock).map (List.map frzC)) (rows' := (p0.held).map eLock) (st1 := mk 10 [(2, pV 2), (5, .one (.so [] 5 0 ((p0.held).length))), (7, lV 6 eLock p0.wait)] [(2, [.bx [.sl 6 ([]), .sl 6 ([])]]), (5, [lC 6 eLock p0.held])]) [2, 5, 7] tyOK (by kernel_rfl) (appRows_fz (by simp [bC, eLock, eRange, eTx, frzC, iC, sC])) (by simp) (by simpa using c1) (by kernel_rfl) (by simp [bC, eLock, eRange, eTx, frzC, iC, sC]) (by simp) (by kernel_rfl) (by kernel_rfl) (by kernel_rfl) ?_
      refine aa_all [5] (by kernel_rfl) rfl ?_
      refine aa_cons ?_ aa_nil
      refine aone_append (listed' := #[true, true, true, true, true, true, false, false]) (d := 8) (n := 0) (n' := ((p0.wait).length)) (bytes := 64) (size := 6) (src := none) (rows := []) (tx := lV 6 eLock p0.wait) (new := ((p0.wait).map eLock).map (List.map frzC)) (rows' := (p0.wait).map eLock) (st1 := mk 10 [(2, pV 2), (5, .one (.so [] 5 0 ((p0.held).length))), (8, .one (.so [] 8 0 ((p0.wait).length)))] [(2, [.bx [.sl 6 ([]), .sl 6 ([])]]), (5, [lC 6 eLock p0.held]), (8, [lC 6 eLock p0.wait])]) [2, 5, 8] tyOK (by kernel_rfl) (appRows_fz (by simp [bC, eLock, eRange, eTx, frzC, iC, sC])) (by simp) (by simpa using c2) (by kernel_rfl) (by simp [bC, eLock, eRange, eTx, frzC, iC, sC]) (by simp) (by kernel_rfl) (by kernel_rfl) (by kernel_rfl) ?_
      exact to k1
    refine a_ret ?_
    obtain rfl := Option.some.inj h
    exact end_own (ob := [(((p0.held).map eLock).length, ((p0.held).map eLock).length), (((p0.wait).map eLock).length, ((p0.wait).map eLock).length)]) (res' := .agg [.so [] 0 0 (((p0.held).map eLock).length), .so [] 0 1 (((p0.wait).map eLock).length)]) (row' := [lC 6 eLock p0.held, lC 6 eLock p0.wait]) (by kernel_rfl) ⟨by simp, by simp, trivial⟩ (by first | rfl | simp) (by first | rfl | simp)

noncomputable def i_Locks_ask (p0 : Locks) (p1 : Lock) : Option (Locks × Int) :=
 bnd (i_Locks_waits p0 p1.tx) fun r1 =>
 bif r1 then
 (some ((p0, 1)))
 else
 (bif (((IntKind.wrap .i64 ((((((p0.held).map eLock).length : Nat) : Int)) + (((((p0.wait).map eLock).length : Nat) : Int)))) == 60)) then
 (some ((p0, 2)))
 else
 (bnd (i_isFree p1 ([p0.held, p0.wait])) fun r2 =>
 bif r2 then
 (chk (((p0.held).length + (([p1] : List Lock)).length) * 64 ≤ 140737488355328) <|
 some (((⟨p0.held ++ ([p1] : List Lock), p0.wait⟩ : Locks), 0)))
 else
 (chk (((p0.wait).length + (([p1] : List Lock)).length) * 64 ≤ 140737488355328) <|
 some (((⟨p0.held, p0.wait ++ ([p1] : List Lock)⟩ : Locks), 3)))))
set_option maxHeartbeats 4000000 in
/-- (*impl.Locks).ask -/
theorem k_i_Locks_ask (p0 : Locks) (p1 : Lock) (v : Locks × Int) (h : i_Locks_ask p0 p1 = some v) : CallG Try.prog 60 [.bx [lC 6 eLock p0.held, lC 6 eLock p0.wait]] [pV 0, .agg [.c (iC p1.tx.c), .c (iC p1.tx.e), .c (iC p1.tx.n), .c (sC p1.range.lo), .c (sC p1.range.hi), .c (bC p1.ex)]] [.bx [lC 6 eLock v.1.held, lC 6 eLock v.1.wait]] (iV v.2) [] :=
  callG tyOK Try.func60 rfl (by simp) fun w S γ hS => by
    unfold i_Locks_ask at h
    refine a_seq ?_
    refine a_run [0, 3] tyOK (st1 := mk 55 [(0, pV 0), (3, pV 3)] [(0, [.bx [lC 6 eLock p0.held, lC 6 eLock p0.wait]]), (3, [.bx [iC p1.tx.c, iC p1.tx.e, iC p1.tx.n, sC p1.range.lo, sC p1.range.hi, bC p1.ex]])]) (by kernel_rfl) ?_
    refine a_seq ?_
    refine a_block ?_
    refine a_seq ?_
    refine a_ops [0, 1, 2, 3, 4] (by kernel_rfl) ?_
    refine ao_some [0, 1, 2] [3, 4] [0, 3, 6, 8] tyOK (st1 := mk 55 [(0, pV 0), (3, pV 3), (6, pV 0), (8, .agg [.c (iC p1.tx.c), .c (iC p1.tx.e), .c (iC p1.tx.n)])] [(0, [.bx [lC 6 eLock p0.held, lC 6 eLock p0.wait]]), (3, [.bx [iC p1.tx.c, iC p1.tx.e, iC p1.tx.n, sC p1.range.lo, sC p1.range.hi, bC p1.ex]])]) (by kernel_rfl) ?_
    obtain ⟨r1, er1, h⟩ := bnd_e h
    refine ao_lend (f := 68) (d := 9) (A := [pV 0, .agg [.c (iC p1.tx.c), .c (iC p1.tx.e), .c (iC p1.tx.n)]]) (A' := [.one (.c (.bx [lC 6 eLock p0.held, lC 6 eLock p0.wait])), .agg [.c (iC p1.tx.c), .c (iC p1.tx.e), .c (iC p1.tx.n)]]) (st1 := mk 55 [(0, pV 0), (3, pV 3), (9, bV r1)] [(0, [.bx [lC 6 eLock p0.held, lC 6 eLock p0.wait]]), (3, [.bx [iC p1.tx.c, iC p1.tx.e, iC p1.tx.n, sC p1.range.lo, sC p1.range.hi, bC p1.ex]])]) [0, 3, 9] (k_i_Locks_waits p0 p1.tx r1 er1) Try.call68 (by kernel_rfl) (.cons (.one (lend_bx [] 0 0 rfl (by kernel_rfl))) (.cons (.agg (.cons (.same rfl) (.cons (.same rfl) (.cons (.same rfl) .nil)))) .nil)) (by kernel_rfl) (clean_nil) (by kernel_rfl) (by kernel_rfl) ?_
    refine ao_someM [4] [] tyOK (l1 := [(0, pV 0), (3, pV 3), (5, bV r1)]) (by kernel_rfl) ?_
    refine ao_nil ?_
    refine a_cond (b := r1) (by kernel_rfl) (fun h1 => ?_) (fun h1 => ?_)
    · replace h := cT h1 h
      refine a_seq ?_
      refine a_run [0, 4] tyOK (st1 := mk 55 [(0, pV 0), (4, iV 1)] [(0, [.bx [lC 6 eLock p0.held, lC 6 eLock p0.wait]])]) (by kernel_rfl) ?_
      refine a_ret ?_
      obtain rfl := Option.some.inj h
      exact end_g (ob := []) (outs' := [.bx [lC 6 eLock p0.held, lC 6 eLock p0.wait]]) (res' := iV 1) (row' := []) (by kernel_rfl) trivial (by first | rfl | simp) (by first | rfl | simp) (by first | rfl | simp)
    · replace h := cF h1 h
      refine a_seq ?_
      refine a_mid (mk 55 [(0, pV 0), (3, pV 3), (10, bV (((IntKind.wrap .i64 ((((((p0.held).map eLock).length : Nat) : Int)) + (((((p0.wait).map eLock).length : Nat) : Int)))) == 60)))] [(0, [.bx [lC 6 eLock p0.held, lC 6 eLock p0.wait]]), (3, [.bx [iC p1.tx.c, iC p1.tx.e, iC p1.tx.n, sC p1.range.lo, sC p1.range.hi, bC p1.ex]])]) ?_ ?_
      · refine a_drawn (n := 13) [] (by kernel_rfl) (by kernel_rfl) ?_
        refine aa_takeM (fuel := 0) (listed' := #[true, true, true, true, true, true, true, true, true, true, true, true, true]) (l1 := [(0, pV 0), (3, pV 3), (10, bV (((IntKind.wrap .i64 ((((((p0.held).map eLock).length : Nat) : Int)) + (((((p0.wait).map eLock).length : Nat) : Int)))) == 60)))]) [0, 1, 2, 3, 4, 5, 6, 7, 8, 9, 10, 11, 12] tyOK (by kernel_rfl) (by kernel_rfl) (by kernel_rfl) ?_
        refine aa_done (by kernel_rfl) ?_
        show _ = _; kernel_rfl
      refine a_cond (b := ((IntKind.wrap .i64 ((((((p0.held).map eLock).length : Nat) : Int)) + (((((p0.wait).map eLock).length : Nat) : Int)))) == 60)) (by kernel_rfl) (fun h2 => ?_) (fun h2 => ?_)
      · replace h := cT h2 h
        refine a_seq ?_
        refine a_run [0, 4] tyOK (st1 := mk 55 [(0, pV 0), (4, iV 2)] [(0, [.bx [lC 6 eLock p0.held, lC 6 eLock p0.wait]])]) (by kernel_rfl) ?_
        refine a_ret ?_
        obtain rfl := Option.some.inj h
        exact end_g (ob := []) (outs' := [.bx [lC 6 eLock p0.held, lC 6 eLock p0.wait]]) (res' := iV 2) (row' := []) (by kernel_rfl) trivial (by first | rfl | simp) (by first | rfl | simp) (by first | rfl | simp)
      · replace h := cF h2 h
        refine a_seq ?_
        obtain ⟨r2, er2, h⟩ := bnd_e h
        refine a_mid (mk 55 [(0, pV 0), (3, pV 3), (23, bV r2)] [(0, [.bx [lC 6 eLock p0.held, lC 6 eLock p0.wait]]), (3, [.bx [iC p1.tx.c, iC p1.tx.e, iC p1.tx.n, sC p1.range.lo, sC p1.range.hi, bC p1.ex]])]) ?_ ?_
        · refine a_drawn (n := 12) [] (by kernel_rfl) (by kernel_rfl) ?_
          refine aa_takeM (fuel := 3) (listed' := #[true, true, true, true, true, true, true, true, true, false, false, false]) (l1 := [(0, pV 0), (3, pV 3), (24, .agg [.c (iC p1.tx.c), .c (iC p1.tx.e), .c (iC p1.tx.n), .c (sC p1.range.lo), .c (sC p1.range.hi), .c (bC p1.ex)]), (28, .one (.so [(0, 0)] 0 0 (((p0.held).map eLock).length))), (32, .one (.so [(0, 0)] 0 1 (((p0.wait).map eLock).length)))]) [0, 1, 2, 3, 4, 5, 6, 7, 8] tyOK (by kernel_rfl) (by kernel_rfl) (by kernel_rfl) ?_
          refine aa_all [9] (by kernel_rfl) rfl ?_
          refine aa_cons ?_ aa_nil
          refine aone_rows (d := 33) (d' := 34) (sz := 1) (f := 67) (xs := [.tmp 24, .tmp 33]) (ts := [[.so [(0, 0)] 0 0 (((p0.held).map eLock).length)], [.so [(0, 0)] 0 1 (((p0.wait).map eLock).length)]]) (tl := [.so [(0, 0)] 0 0 (((p0.held).map eLock).length), .so [(0, 0)] 0 1 (((p0.wait).map eLock).length)]) (rows := [[lC 6 eLock p0.held], [lC 6 eLock p0.wait]]) (cl := [lC 6 eLock p0.held, lC 6 eLock p0.wait]) (A' := [.agg [.c (iC p1.tx.c), .c (iC p1.tx.e), .c (iC p1.tx.n), .c (sC p1.range.lo), .c (sC p1.range.hi), .c (bC p1.ex)], .one (.c (.sl 1 ([[lC 6 eLock p0.held], [lC 6 eLock p0.wait]])))]) (st1 := mk 55 [(0, pV 0), (3, pV 3), (34, bV r2)] [(0, [.bx [lC 6 eLock p0.held, lC 6 eLock p0.wait]]), (3, [.bx [iC p1.tx.c, iC p1.tx.e, iC p1.tx.n, sC p1.range.lo, sC p1.range.hi, bC p1.ex]])]) (j := 10) (fuel := 1) (listed1 := #[true, true, true, true, true, true, true, true, true, true, false, false]) (listed2 := #[true, true, true, true, true, true, true, true, true, true, true, false]) [0, 3, 34] tyOK (k_i_isFree p1 ([p0.held, p0.wait]) r2 er2) Try.call67 (by kernel_rfl) (by kernel_rfl) (by kernel_rfl) (.cons (lend_so (by kernel_rfl) (by simp)) (.cons (lend_so (by kernel_rfl) (by simp)) .nil)) (by kernel_rfl) (by kernel_rfl) (.cons rfl (by kernel_rfl) (.agg (.cons (.same rfl) (.cons (.same rfl) (.cons (.same rfl) (.cons (.same rfl) (.cons (.same rfl) (.cons (.same rfl) .nil))))))) (.hd .nil)) (by kernel_rfl) clean_nil (by kernel_rfl) (by kernel_rfl) (by kernel_rfl) (by kernel_rfl) (by kernel_rfl) ?_
          refine aa_takeM (fuel := 0) (listed' := #[true, true, true, true, true, true, true, true, true, true, true, true]) (l1 := [(0, pV 0), (3, pV 3), (23, bV r2)]) [11] tyOK (by kernel_rfl) (by kernel_rfl) (by kernel_rfl) ?_
          refine aa_done (by kernel_rfl) ?_
          show _ = _; kernel_rfl
        refine a_cond (b := r2) (by kernel_rfl) (fun h3 => ?_) (fun h3 => ?_)
        · replace h := cT h3 h
          refine a_seq ?_
          obtain ⟨c1, h⟩ := chk_e h
          refine a_mid (mk 55 [(0, pV 0)] [(0, [.bx [lC 6 eLock (p0.held ++ ([p1] : List Lock)), lC 6 eLock p0.wait]])]) ?_ ?_
          · refine a_drawn (n := 11) [7, 10] (by kernel_rfl) (by kernel_rfl) ?_
            refine aa_takePM (fuel := 10) (listed' := #[true, false, false, false, false, false, false, false, false, false, false]) (l1 := [(0, pV 0), (3, pV 3), (35, pV 0)]) [0] tyOK (by kernel_rfl) (by kernel_rfl) (by kernel_rfl) ?_
            refine aa_take (fuel := 5) (listed' := #[true, true, true, true, true, true, false, false, false, false, false]) (st' := mk 55 [(0, pV 0), (35, pV 0), (39, .one (.so [(0, 0)] 0 0 (((p0.held).map eLock).length))), (40, .agg [.c (iC p1.tx.c), .c (iC p1.tx.e), .c (iC p1.tx.n), .c (sC p1.range.lo), .c (sC p1.range.hi), .c (bC p1.ex)])] [(0, [.bx [lC 6 eLock p0.held, lC 6 eLock p0.wait]])]) [1, 2, 3, 4, 5] [0, 35, 39, 40] tyOK (by kernel_rfl) (by kernel_rfl) (by kernel_rfl) ?_
            refine aa_all [6] (by kernel_rfl) rfl ?_
            refine aa_cons ?_ aa_nil
            refine aone_any (listed' := #[true, true, true, true, true, true, true, false, false, false, false]) (st1 := mk 55 [(0, pV 0), (35, pV 0), (39, .one (.so [(0, 0)] 0 0 (((p0.held).map eLock).length))), (41, .one (.so [] 41 0 1))] [(0, [.bx [lC 6 eLock p0.held, lC 6 eLock p0.wait]]), (41, [.sl 6 ([[iC p1.tx.c, iC p1.tx.e, iC p1.tx.n, sC p1.range.lo, sC p1.range.hi, bC p1.ex]])])]) [0, 35, 39, 41] tyOK (by kernel_rfl) (by kernel_rfl) ?_
            refine aa_all [7] (by kernel_rfl) rfl ?_
            refine aa_cons ?_ aa_nil
            refine aone_append (listed' := #[true, true, true, true, true, true, true, true, false, false, false]) (d := 42) (n := (((p0.held).map eLock).length)) (n' := ((p0.held ++ ([p1] : List Lock)).length)) (bytes := 64) (size := 6) (src := (some ([(0, 0)], 0, 0))) (rows := (p0.held).map eLock) (tx := .one (.so [] 41 0 1)) (new := [[iC p1.tx.c, iC p1.tx.e, iC p1.tx.n, sC p1.range.lo, sC p1.range.hi, bC p1.ex]]) (rows' := (p0.held ++ ([p1] : List Lock)).map eLock) (st1 := mk 55 [(0, pV 0), (35, pV 0), (42, .one (.so [] 42 0 ((p0.held ++ ([p1] : List Lock)).length)))] [(0, [.bx [.dead, lC 6 eLock p0.wait]]), (42, [lC 6 eLock (p0.held ++ ([p1] : List Lock))])]) [0, 35, 42] tyOK (by kernel_rfl) (by kernel_rfl) (by simp) (by simpa using c1) (by kernel_rfl) (by simp [bC, eLock, eRange, eTx, frzC, iC, sC]) (by simp) (by kernel_rfl) (by kernel_rfl) (by kernel_rfl) ?_
            refine aa_takeM (fuel := 1) (listed' := #[true, true, true, true, true, true, true, true, true, true, false]) (l1 := [(0, pV 0), (42, .one (.so [] 42 0 ((p0.held ++ ([p1] : List Lock)).length))), (44, pV 0)]) [8, 9] tyOK (by kernel_rfl) (by kernel_rfl) (by kernel_rfl) ?_
            refine aa_all [10] (by kernel_rfl) rfl ?_
            refine aa_cons ?_ aa_nil
            refine aone_o (ob := [(((p0.held ++ ([p1] : List Lock)).map eLock).length, (p0.held ++ ([p1] : List Lock)).length)]) (listed' := #[true, true, true, true, true, true, true, true, true, true, true]) (st1 := mk 55 [(0, pV 0)] [(0, [.bx [lC 6 eLock (p0.held ++ ([p1] : List Lock)), lC 6 eLock p0.wait]])]) [0] tyOK (by kernel_rfl) ⟨by simp, trivial⟩ (by kernel_rfl) (by kernel_rfl) ?_
            refine aa_done (by kernel_rfl) ?_
            show _ = _; kernel_rfl
          refine a_seq ?_
          refine a_runM tyOK (l1 := [(0, pV 0), (4, iV 0)]) (by kernel_rfl) ?_
          refine a_ret ?_
          obtain rfl := Option.some.inj h
          exact end_g (ob := []) (outs' := [.bx [lC 6 eLock (p0.held ++ ([p1] : List Lock)), lC 6 eLock p0.wait]]) (res' := iV 0) (row' := []) (by kernel_rfl) trivial (by first | rfl | simp) (by first | rfl | simp) (by first | rfl | simp)
        · replace h := cF h3 h
          refine a_skip ?_
          refine a_seq ?_
          obtain ⟨c2, h⟩ := chk_e h
          refine a_mid (mk 55 [(0, pV 0)] [(0, [.bx [lC 6 eLock p0.held, lC 6 eLock (p0.wait ++ ([p1] : List Lock))]])]) ?_ ?_
          · refine a_drawn (n := 11) [7, 10] (by kernel_rfl) (by kernel_rfl) ?_
            refine aa_takePM (fuel := 10) (listed' := #[true, false, false, false, false, false, false, false, false, false, false]) (l1 := [(0, pV 0), (3, pV 3), (45, pV 0)]) [0] tyOK (by kernel_rfl) (by kernel_rfl) (by kernel_rfl) ?_
            refine aa_take (fuel := 5) (listed' := #[true, true, true, true, true, true, false, false, false, false, false]) (st' := mk 55 [(0, pV 0), (45, pV 0), (49, .one (.so [(0, 0)] 0 1 (((p0.wait).map eLock).length))), (50, .agg [.c (iC p1.tx.c), .c (iC p1.tx.e), .c (iC p1.tx.n), .c (sC p1.range.lo), .c (sC p1.range.hi), .c (bC p1.ex)])] [(0, [.bx [lC 6 eLock p0.held, lC 6 eLock p0.wait]])]) [1, 2, 3, 4, 5] [0, 45, 49, 50] tyOK (by kernel_rfl) (by kernel_rfl) (by kernel_rfl) ?_
            refine aa_all [6] (by kernel_rfl) rfl ?_
            refine aa_cons ?_ aa_nil
            refine aone_any (listed' := #[true, true, true, true, true, true, true, false, false, false, false]) (st1 := mk 55 [(0, pV 0), (45, pV 0), (49, .one (.so [(0, 0)] 0 1 (((p0.wait).map eLock).length))), (51, .one (.so [] 51 0 1))] [(0, [.bx [lC 6 eLock p0.held, lC 6 eLock p0.wait]]), (51, [.sl 6 ([[iC p1.tx.c, iC p1.tx.e, iC p1.tx.n, sC p1.range.lo, sC p1.range.hi, bC p1.ex]])])]) [0, 45, 49, 51] tyOK (by kernel_rfl) (by kernel_rfl) ?_
            refine aa_all [7] (by kernel_rfl) rfl ?_
            refine aa_cons ?_ aa_nil
            refine aone_append (listed' := #[true, true, true, true, true, true, true, true, false, false, false]) (d := 52) (n := (((p0.wait).map eLock).length)) (n' := ((p0.wait ++ ([p1] : List Lock)).length)) (bytes := 64) (size := 6) (src := (some ([(0, 0)], 0, 1))) (rows := (p0.wait).map eLock) (tx := .one (.so [] 51 0 1)) (new := [[iC p1.tx.c, iC p1.tx.e, iC p1.tx.n, sC p1.range.lo, sC p1.range.hi, bC p1.ex]]) (rows' := (p0.wait ++ ([p1] : List Lock)).map eLock) (st1 := mk 55 [(0, pV 0), (45, pV 0), (52, .one (.so [] 52 0 ((p0.wait ++ ([p1] : List Lock)).length)))] [(0, [.bx [lC 6 eLock p0.held, .dead]]), (52, [lC 6 eLock (p0.wait ++ ([p1] : List Lock))])]) [0, 45, 52] tyOK (by kernel_rfl) (by kernel_rfl) (by simp) (by simpa using c2) (by kernel_rfl) (by simp [bC, eLock, eRange, eTx, frzC, iC, sC]) (by simp) (by kernel_rfl) (by kernel_rfl) (by kernel_rfl) ?_
            refine aa_takeM (fuel := 1) (listed' := #[true, true, true, true, true, true, true, true, true, true, false]) (l1 := [(0, pV 0), (52, .one (.so [] 52 0 ((p0.wait ++ ([p1] : List Lock)).length))), (54, .one (.pl [(0, 0)] 0 1))]) [8, 9] tyOK (by kernel_rfl) (by kernel_rfl) (by kernel_rfl) ?_
            refine aa_all [10] (by kernel_rfl) rfl ?_
            refine aa_cons ?_ aa_nil
            refine aone_o (ob := [(((p0.wait ++ ([p1] : List Lock)).map eLock).length, (p0.wait ++ ([p1] : List Lock)).length)]) (listed' := #[true, true, true, true, true, true, true, true, true, true, true]) (st1 := mk 55 [(0, pV 0)] [(0, [.bx [lC 6 eLock p0.held, lC 6 eLock (p0.wait ++ ([p1] : List Lock))]])]) [0] tyOK (by kernel_rfl) ⟨by simp, trivial⟩ (by kernel_rfl) (by kernel_rfl) ?_
            refine aa_done (by kernel_rfl) ?_
            show _ = _; kernel_rfl
          refine a_seq ?_
          refine a_runM tyOK (l1 := [(0, pV 0), (4, iV 3)]) (by kernel_rfl) ?_
          refine a_ret ?_
          obtain rfl := Option.some.inj h
          exact end_g (ob := []) (outs' := [.bx [lC 6 eLock p0.held, lC 6 eLock (p0.wait ++ ([p1] : List Lock))]]) (res' := iV 3) (row' := []) (by kernel_rfl) trivial (by first | rfl | simp) (by first | rfl | simp) (by first | rfl | simp)


end Go.Proofs.Ytagoajkiccgmjaa
namespace Go.Proofs.Ytagoajkiccgmjaa
open Go.Mv Go.RowKit
noncomputable def i_LockAsk (p0 : Locks) (p1 : Lock) : Option (Locks × Int) :=
 bnd (bnd (i_LocksOk p0) fun r1 =>
 bif (!r1) then
 (some true)
 else
 (some (!(i_lockOk p1)))) fun j1 =>
 bif j1 then
 (some (((⟨[], []⟩ : Locks), 1)))
 else
 (bnd (i_copyLocks p0) fun r2 =>
 bnd (i_Locks_ask r2 p1) fun r3 =>
 bif (bif ((r3.2 == 1)) then true else ((r3.2 == 2))) then
 (some (((⟨[], []⟩ : Locks), r3.2)))
 else
 (some ((r3.1, r3.2))))
set_option maxHeartbeats 4000000 in
/-- impl.LockAsk -/
theorem k_i_LockAsk (p0 : Locks) (p1 : Lock) (v : Locks × Int) (h : i_LockAsk p0 p1 = some v) : CallOK Try.prog 18 [.agg [.c (lC 6 eLock p0.held), .c (lC 6 eLock p0.wait)], .agg [.c (iC p1.tx.c), .c (iC p1.tx.e), .c (iC p1.tx.n), .c (sC p1.range.lo), .c (sC p1.range.hi), .c (bC p1.ex)]] (.tup [.agg [.so [] 0 0 ((v.1.held).length), .so [] 0 1 ((v.1.wait).length)], .one (.c (iC v.2))]) [lC 6 eLock v.1.held, lC 6 eLock v.1.wait] :=
  callOK tyOK Try.func18 rfl fun w S hS => by
    unfold i_LockAsk at h
    refine a_seq ?_
    refine a_run [2, 3, 4] tyOK (st1 := mk 31 [(2, pV 2), (3, pV 3), (4, pV 4)] [(2, [.bx [.fz (lC 6 eLock p0.held), .fz (lC 6 eLock p0.wait)]]), (3, [.bx [iC p1.tx.c, iC p1.tx.e, iC p1.tx.n, sC p1.range.lo, sC p1.range.hi, bC p1.ex]]), (4, [.bx [.sl 6 ([]), .sl 6 ([])]])]) (by kernel_rfl) ?_
    refine a_seq ?_
    refine a_seq ?_
    obtain ⟨y1, h, ky1⟩ := bndJ_e h
    refine a_joinT (ι := Bool) (fun j => mk 31 [(2, pV 2), (3, pV 3), (4, pV 4), (15, bV j)] [(2, [.bx [.fz (lC 6 eLock p0.held), .fz (lC 6 eLock p0.wait)]]), (3, [.bx [iC p1.tx.c, iC p1.tx.e, iC p1.tx.n, sC p1.range.lo, sC p1.range.hi, bC p1.ex]]), (4, [.bx [.sl 6 ([]), .sl 6 ([])]])]) (fun j => y1 = j) ?_ ?_
    · refine a_ops [0, 1, 2, 3, 4, 5, 6, 7] (by kernel_rfl) ?_
      refine ao_some [0] [1, 2, 3, 4, 5, 6, 7] [2, 3, 4, 8] tyOK (st1 := mk 31 [(2, pV 2), (3, pV 3), (4, pV 4), (8, .agg [.c (lC 6 eLock p0.held), .c (lC 6 eLock p0.wait)])] [(2, [.bx [.fz (lC 6 eLock p0.held), .fz (lC 6 eLock p0.wait)]]), (3, [.bx [iC p1.tx.c, iC p1.tx.e, iC p1.tx.n, sC p1.range.lo, sC p1.range.hi, bC p1.ex]]), (4, [.bx [.sl 6 ([]), .sl 6 ([])]])]) (by kernel_rfl) ?_
      obtain ⟨r1, er1, h⟩ := bnd_e h
      refine ao_enterM (f := 21) (d := 9) (A := [.agg [.c (lC 6 eLock p0.held), .c (lC 6 eLock p0.wait)]]) (l1 := [(2, pV 2), (3, pV 3), (4, pV 4), (9, bV r1)]) (k_i_LocksOk p0 r1 er1) Try.call21 (by kernel_rfl) (by kernel_rfl) (by kernel_rfl) ?_
      refine ao_someM [2, 3] [4, 5, 6, 7] tyOK (l1 := [(2, pV 2), (3, pV 3), (4, pV 4), (11, bV (!r1))]) (by kernel_rfl) ?_
      rcases Bool.eq_false_or_eq_true (!r1) with h1 | h1
      · replace h := cT h1 h
        refine ao_saysM (k := 11) (t := bV (!r1)) (t' := bV true) (l1 := [(2, pV 2), (3, pV 3), (4, pV 4), (11, bV true)]) (by kernel_rfl) (by rw [h1]) (by kernel_rfl) ?_
        refine ao_someM [4, 5, 6, 7] [] tyOK (l1 := [(2, pV 2), (3, pV 3), (4, pV 4), (15, bV true)]) (by kernel_rfl) ?_
        refine ao_nil ?_
        obtain rfl := Option.some.inj h
        show ∃ _, _ ∧ Imp _ _ _
        refine ⟨_, rfl, ?_⟩
        exact imp_keepTo [2, 3, 4, 15] (by kernel_rfl) (imp_done rfl)
      · replace h := cF h1 h
        refine ao_saysM (k := 11) (t := bV (!r1)) (t' := bV false) (l1 := [(2, pV 2), (3, pV 3), (4, pV 4), (11, bV false)]) (by kernel_rfl) (by rw [h1]) (by kernel_rfl) ?_
        refine ao_someM [4] [5, 6, 7] tyOK (l1 := [(2, pV 2), (3, pV 3), (4, pV 4), (11, bV false), (12, .agg [.c (iC p1.tx.c), .c (iC p1.tx.e), .c (iC p1.tx.n), .c (sC p1.range.lo), .c (sC p1.range.hi), .c (bC p1.ex)])]) (by kernel_rfl) ?_
        refine ao_enterM (f := 58) (d := 13) (A := [.agg [.c (iC p1.tx.c), .c (iC p1.tx.e), .c (iC p1.tx.n), .c (sC p1.range.lo), .c (sC p1.range.hi), .c (bC p1.ex)]]) (l1 := [(2, pV 2), (3, pV 3), (4, pV 4), (11, bV false), (13, bV (i_lockOk p1))]) (k_i_lockOk p1 _ rfl) Try.call58 (by kernel_rfl) (by kernel_rfl) (by kernel_rfl) ?_
        refine ao_someM [6, 7] [] tyOK (l1 := [(2, pV 2), (3, pV 3), (4, pV 4), (15, bV (!(i_lockOk p1)))]) (by kernel_rfl) ?_
        refine ao_nil ?_
        obtain rfl := Option.some.inj h
        show ∃ _, _ ∧ Imp _ _ _
        refine ⟨_, rfl, ?_⟩
        exact imp_keepTo [2, 3, 4, 15] (by kernel_rfl) (imp_done rfl)
    intro j1 hj1
    replace h := ky1 _ hj1
    refine a_cond (b := j1) (by kernel_rfl) (fun h2 => ?_) (fun h2 => ?_)
    · replace h := cT h2 h
      refine a_seq ?_
      refine a_run [4, 5] tyOK (st1 := mk 31 [(4, pV 4), (5, iV 1)] [(4, [.bx [.sl 6 ([]), .sl 6 ([])]])]) (by kernel_rfl) ?_
      refine a_ret ?_
      obtain rfl := Option.some.inj h
      exact end_own (ob := [(0, 0), (0, 0)]) (res' := .tup [.agg [.so [] 0 0 0, .so [] 0 1 0], .one (.c (iC 1))]) (row' := [.sl 6 ([]), .sl 6 ([])]) (by kernel_rfl) ⟨by simp, by simp, trivial⟩ (by first | rfl | simp) (by first | rfl | simp)
    · replace h := cF h2 h
      refine a_skip ?_
      refine a_seq ?_
      refine a_ops [0, 1, 2, 3] (by kernel_rfl) ?_
      refine ao_some [0] [1, 2, 3] [3, 4, 17] tyOK (st1 := mk 31 [(3, pV 3), (4, pV 4), (17, .agg [.c (lC 6 eLock p0.held), .c (lC 6 eLock p0.wait)])] [(3, [.bx [iC p1.tx.c, iC p1.tx.e, iC p1.tx.n, sC p1.range.lo, sC p1.range.hi, bC p1.ex]]), (4, [.bx [.sl 6 ([]), .sl 6 ([])]])]) (by kernel_rfl) ?_
      obtain ⟨r2, er2, h⟩ := bnd_e h
      refine ao_enter (f := 59) (d := 18) (A := [.agg [.c (lC 6 eLock p0.held), .c (lC 6 eLock p0.wait)]]) (st1 := mk 31 [(3, pV 3), (4, pV 4), (18, .agg [.so [] 18 0 ((r2.held).length), .so [] 18 1 ((r2.wait).length)])] [(3, [.bx [iC p1.tx.c, iC p1.tx.e, iC p1.tx.n, sC p1.range.lo, sC p1.range.hi, bC p1.ex]]), (4, [.bx [.sl 6 ([]), .sl 6 ([])]]), (18, [lC 6 eLock r2.held, lC 6 eLock r2.wait])]) [3, 4, 18] (k_i_copyLocks p0 r2 er2) Try.call59 (by kernel_rfl) (by kernel_rfl) (by kernel_rfl) ?_
      refine ao_some [2] [3] [3, 4, 6, 18] tyOK (st1 := mk 31 [(3, pV 3), (4, pV 4), (6, pV 6), (18, .agg [.so [] 18 0 ((r2.held).length), .so [] 18 1 ((r2.wait).length)])] [(3, [.bx [iC p1.tx.c, iC p1.tx.e, iC p1.tx.n, sC p1.range.lo, sC p1.range.hi, bC p1.ex]]), (4, [.bx [.sl 6 ([]), .sl 6 ([])]]), (6, [.bx [.sl 6 ([]), .sl 6 ([])]]), (18, [lC 6 eLock r2.held, lC 6 eLock r2.wait])]) (by kernel_rfl) ?_
      refine ao_o (ob := [(((r2.held).map eLock).length, (r2.held).length), (((r2.wait).map eLock).length, (r2.wait).length)]) (st1 := mk 31 [(3, pV 3), (4, pV 4), (6, pV 6)] [(3, [.bx [iC p1.tx.c, iC p1.tx.e, iC p1.tx.n, sC p1.range.lo, sC p1.range.hi, bC p1.ex]]), (4, [.bx [.sl 6 ([]), .sl 6 ([])]]), (6, [.bx [lC 6 eLock r2.held, lC 6 eLock r2.wait]])]) [3, 4, 6] tyOK (by kernel_rfl) ⟨by simp, by simp, trivial⟩ ?_
      refine ao_nil ?_
      refine a_seq ?_
      refine a_ops [0, 1, 2] (by kernel_rfl) ?_
      refine ao_some [0] [1, 2] [4, 6, 19] tyOK (st1 := mk 31 [(4, pV 4), (6, pV 6), (19, .agg [.c (iC p1.tx.c), .c (iC p1.tx.e), .c (iC p1.tx.n), .c (sC p1.range.lo), .c (sC p1.range.hi), .c (bC p1.ex)])] [(4, [.bx [.sl 6 ([]), .sl 6 ([])]]), (6, [.bx [lC 6 eLock r2.held, lC 6 eLock r2.wait]])]) (by kernel_rfl) ?_
      obtain ⟨r3, er3, h⟩ := bnd_e h
      refine ao_g2 (g := 60) (d := 20) (A := [pV 6, .agg [.c (iC p1.tx.c), .c (iC p1.tx.e), .c (iC p1.tx.n), .c (sC p1.range.lo), .c (sC p1.range.hi), .c (bC p1.ex)]]) (A' := [pV 0, .agg [.c (iC p1.tx.c), .c (iC p1.tx.e), .c (iC p1.tx.n), .c (sC p1.range.lo), .c (sC p1.range.hi), .c (bC p1.ex)]]) (cs := [.bx [lC 6 eLock r2.held, lC 6 eLock r2.wait]]) (outs := [.bx [lC 6 eLock r3.1.held, lC 6 eLock r3.1.wait]]) (ps := [[(6, 0)]]) (st1 := mk 31 [(4, pV 4), (6, pV 6), (20, iV r3.2)] [(4, [.bx [.sl 6 ([]), .sl 6 ([])]]), (6, [.bx [lC 6 eLock r3.1.held, lC 6 eLock r3.1.wait]])]) [4, 6, 20] (k_i_Locks_ask r2 p1 r3 er3) Try.call60 (by kernel_rfl) (.cons (.one (.pl 0 rfl rfl)) (.cons (.agg (.cons (.same rfl) (.cons (.same rfl) (.cons (.same rfl) (.cons (.same rfl) (.cons (.same rfl) (.cons (.same rfl) .nil))))))) .nil)) (handedN_of (szs := [0]) (by kernel_rfl)) (by kernel_rfl) (.bx .nil) (wholeF0 _ _) (by kernel_rfl) (by kernel_rfl) ?_
      refine ao_someM [2] [] tyOK (l1 := [(4, pV 4), (6, pV 6), (7, iV r3.2)]) (by kernel_rfl) ?_
      refine ao_nil ?_
      refine a_seq ?_
      refine a_seq ?_
      refine a_mid (mk 31 [(4, pV 4), (6, pV 6), (7, iV r3.2), (26, bV (bif ((r3.2 == 1)) then true else ((r3.2 == 2))))] [(4, [.bx [.sl 6 ([]), .sl 6 ([])]]), (6, [.bx [lC 6 eLock r3.1.held, lC 6 eLock r3.1.wait]])]) ?_ ?_
      · refine a_ops [0, 1, 2, 3, 4, 5] (by kernel_rfl) ?_
        refine ao_someM [0, 1, 2] [3, 4, 5] tyOK (l1 := [(4, pV 4), (6, pV 6), (7, iV r3.2), (23, bV ((r3.2 == 1)))]) (by kernel_rfl) ?_
        rcases Bool.eq_false_or_eq_true ((r3.2 == 1)) with h3 | h3
        · refine ao_saysM (k := 23) (t := bV ((r3.2 == 1))) (t' := bV true) (l1 := [(4, pV 4), (6, pV 6), (7, iV r3.2), (23, bV true)]) (by kernel_rfl) (by rw [h3]) (by kernel_rfl) ?_
          refine ao_someM [3, 4, 5] [] tyOK (l1 := [(4, pV 4), (6, pV 6), (7, iV r3.2), (26, bV true)]) (by kernel_rfl) ?_
          refine ao_nil ?_
          show mk 31 [(4, pV 4), (6, pV 6), (7, iV r3.2), (26, bV true)] [(4, [.bx [.sl 6 ([]), .sl 6 ([])]]), (6, [.bx [lC 6 eLock r3.1.held, lC 6 eLock r3.1.wait]])] = mk 31 [(4, pV 4), (6, pV 6), (7, iV r3.2), (26, bV (bif ((r3.2 == 1)) then true else ((r3.2 == 2))))] [(4, [.bx [.sl 6 ([]), .sl 6 ([])]]), (6, [.bx [lC 6 eLock r3.1.held, lC 6 eLock r3.1.wait]])]
          first | rfl | (simp only [h3, cond_true, cond_false]) | (simp only [h3, cond_true, cond_false]; rfl)
        · refine ao_saysM (k := 23) (t := bV ((r3.2 == 1))) (t' := bV false) (l1 := [(4, pV 4), (6, pV 6), (7, iV r3.2), (23, bV false)]) (by kernel_rfl) (by rw [h3]) (by kernel_rfl) ?_
          refine ao_someM [3, 4, 5] [] tyOK (l1 := [(4, pV 4), (6, pV 6), (7, iV r3.2), (26, bV ((r3.2 == 2)))]) (by kernel_rfl) ?_
          refine ao_nil ?_
          show mk 31 [(4, pV 4), (6, pV 6), (7, iV r3.2), (26, bV ((r3.2 == 2)))] [(4, [.bx [.sl 6 ([]), .sl 6 ([])]]), (6, [.bx [lC 6 eLock r3.1.held, lC 6 eLock r3.1.wait]])] = mk 31 [(4, pV 4), (6, pV 6), (7, iV r3.2), (26, bV (bif ((r3.2 == 1)) then true else ((r3.2 == 2))))] [(4, [.bx [.sl 6 ([]), .sl 6 ([])]]), (6, [.bx [lC 6 eLock r3.1.held, lC 6 eLock r3.1.wait]])]
          first | rfl | (simp only [h3, cond_true, cond_false]) | (simp only [h3, cond_true, cond_false]; rfl)
      refine a_cond (b := bif ((r3.2 == 1)) then true else ((r3.2 == 2))) (by kernel_rfl) (fun h3 => ?_) (fun h3 => ?_)
      · replace h := cT h3 h
        refine a_seq ?_
        refine a_run [4, 5] tyOK (st1 := mk 31 [(4, pV 4), (5, iV r3.2)] [(4, [.bx [.sl 6 ([]), .sl 6 ([])]])]) (by kernel_rfl) ?_
        refine a_ret ?_
        obtain rfl := Option.some.inj h
        exact end_own (ob := [(0, 0), (0, 0)]) (res' := .tup [.agg [.so [] 0 0 0, .so [] 0 1 0], .one (.c (iC r3.2))]) (row' := [.sl 6 ([]), .sl 6 ([])]) (by kernel_rfl) ⟨by simp, by simp, trivial⟩ (by first | rfl | simp) (by first | rfl | simp)
      · replace h := cF h3 h
        refine a_skip ?_
        refine a_seq ?_
        refine a_ops [0, 1, 2, 3] (by kernel_rfl) ?_
        refine ao_someM [0, 1] [2, 3] tyOK (l1 := [(4, pV 4), (29, .agg [.so [(6, 0)] 0 0 (((r3.1.held).map eLock).length), .so [(6, 0)] 0 1 (((r3.1.wait).map eLock).length)]), (30, iV r3.2)]) (by kernel_rfl) ?_
        refine ao_o (ob := [(((r3.1.held).map eLock).length, ((r3.1.held).map eLock).length), (((r3.1.wait).map eLock).length, ((r3.1.wait).map eLock).length)]) (st1 := mk 31 [(4, pV 4), (30, iV r3.2)] [(4, [.bx [lC 6 eLock r3.1.held, lC 6 eLock r3.1.wait]])]) [4, 30] tyOK (by kernel_rfl) ⟨by simp, by simp, trivial⟩ ?_
        refine ao_someM [3] [] tyOK (l1 := [(4, pV 4), (5, iV r3.2)]) (by kernel_rfl) ?_
        refine ao_nil ?_
        refine a_ret ?_
        obtain rfl := Option.some.inj h
        exact end_own (ob := [(((r3.1.held).map eLock).length, ((r3.1.held).map eLock).length), (((r3.1.wait).map eLock).length, ((r3.1.wait).map eLock).length)]) (res' := .tup [.agg [.so [] 0 0 (((r3.1.held).map eLock).length), .so [] 0 1 (((r3.1.wait).map eLock).length)], .one (.c (iC r3.2))]) (row' := [lC 6 eLock r3.1.held, lC 6 eLock r3.1.wait]) (by kernel_rfl) ⟨by simp, by simp, trivial⟩ (by first | rfl | simp) (by first | rfl | simp)

noncomputable def i_Locks_free_c1 (p0 : Lock) (q0 : Tx) : Bool :=
 ((p0.tx.c == q0.c) && ((p0.tx.e == q0.e) && ((p0.tx.n == q0.n) && true)))
set_option maxHeartbeats 4000000 in
/-- (*impl.Locks).free$1 -/
theorem k_i_Locks_free_c1 (p0 : Lock) (q0 : Tx) (v : Bool) (h : i_Locks_free_c1 p0 q0 = v) : CallOK Try.prog 105 [.agg [.c (iC p0.tx.c), .c (iC p0.tx.e), .c (iC p0.tx.n), .c (sC p0.range.lo), .c (sC p0.range.hi), .c (bC p0.ex)], .one (.c (.bx [iC q0.c, iC q0.e, iC q0.n]))] (bV v) [] :=
  callOK tyOK Try.func105 rfl fun w S hS => by
    unfold i_Locks_free_c1 at h
    refine a_seq ?_
    refine a_run [1, 2] tyOK (st1 := mk 8 [(1, .one (.c (.bx [iC q0.c, iC q0.e, iC q0.n]))), (2, pV 2)] [(2, [.bx [iC p0.tx.c, iC p0.tx.e, iC p0.tx.n, sC p0.range.lo, sC p0.range.hi, bC p0.ex]])]) (by kernel_rfl) ?_
    refine a_seq ?_
    refine a_run [3] tyOK (st1 := mk 8 [(3, bV (((p0.tx.c == q0.c) && ((p0.tx.e == q0.e) && ((p0.tx.n == q0.n) && true)))))] []) (by kernel_rfl) ?_
    refine a_ret ?_
    obtain rfl := h
    exact end_eq (res' := bV (((p0.tx.c == q0.c) && ((p0.tx.e == q0.e) && ((p0.tx.n == q0.n) && true))))) (by kernel_rfl) (by first | rfl | simp)

noncomputable def Bsl_IndexFunc_Lock_i_Locks_free_c1_1 (p0 : (List Lock)) (q0 : Tx) (s1 : Int) : Option (Int ⊕ (Unit ⊕ (Int))) :=
 bif (decide (s1 < (((((p0).map eLock).length : Nat) : Int)))) then
 (bnd (getI p0 s1) fun x1 =>
 bif (i_Locks_free_c1 x1 q0) then
 (some (.inr (.inr s1)))
 else
 (some (.inl (IntKind.wrap .i64 (s1 + 1)))))
 else
 (some (.inr (.inl (()))))

noncomputable def sl_IndexFunc_Lock_i_Locks_free_c1 (p0 : (List Lock)) (q0 : Tx) : Option (Int) :=
 bndS (loopT (Bsl_IndexFunc_Lock_i_Locks_free_c1_1 p0 q0) 0) fun j1 =>
 some (-1)
set_option maxHeartbeats 4000000 in
/-- slices.IndexFunc[[]impl.Lock,impl.Lock] -/
theorem k_sl_IndexFunc_Lock_i_Locks_free_c1 (p0 : (List Lock)) (q0 : Tx) (v : Int) (h : sl_IndexFunc_Lock_i_Locks_free_c1 p0 q0 = some v) : CallOK Try.prog 131 [lV 6 eLock p0, .one (.c (.fn 105 [.bx [iC q0.c, iC q0.e, iC q0.n]]))] (iV v) [] :=
  callOK tyOK Try.func131 rfl fun w S hS => by
    unfold sl_IndexFunc_Lock_i_Locks_free_c1 at h
    refine a_seq ?_
    refine a_run [0, 1] tyOK (st1 := mk 19 [(0, lV 6 eLock p0), (1, .one (.c (.fn 105 [.bx [iC q0.c, iC q0.e, iC q0.n]])))] []) (by kernel_rfl) ?_
    refine a_seq ?_
    refine a_seq ?_
    refine a_runM tyOK (l1 := [(0, lV 6 eLock p0), (1, .one (.c (.fn 105 [.bx [iC q0.c, iC q0.e, iC q0.n]]))), (7, iV (((((p0).map eLock).length : Nat) : Int))), (8, iV 0)]) (by kernel_rfl) ?_
    obtain ⟨y1, h, ky1, zy1⟩ := bndS_e h
    refine a_joinT (ι := Unit) (fun j => mk 19 [] []) (fun j => y1 = .inl j) ?_ ?_
    · refine a_block ?_
      refine a_loopT (Bsl_IndexFunc_Lock_i_Locks_free_c1_1 p0 q0) (fun s1 => mk 19 [(0, lV 6 eLock p0), (1, .one (.c (.fn 105 [.bx [iC q0.c, iC q0.e, iC q0.n]]))), (7, iV (((((p0).map eLock).length : Nat) : Int))), (8, iV s1)] []) 0 h ?_ ?_
      · exact imp_keepTo [0, 1, 7, 8] (by kernel_rfl) (imp_done rfl)
      intro s1 y2 h zy2
      unfold Bsl_IndexFunc_Lock_i_Locks_free_c1_1 at h
      refine a_seq ?_
      refine a_run [0, 1, 7, 8, 9] tyOK (st1 := mk 19 [(0, lV 6 eLock p0), (1, .one (.c (.fn 105 [.bx [iC q0.c, iC q0.e, iC q0.n]]))), (7, iV (((((p0).map eLock).length : Nat) : Int))), (8, iV s1), (9, bV (decide (s1 < (((((p0).map eLock).length : Nat) : Int)))))] []) (by kernel_rfl) ?_
      refine a_seq ?_
      refine a_cond (b := decide (s1 < (((((p0).map eLock).length : Nat) : Int)))) (by kernel_rfl) (fun h1 => ?_) (fun h1 => ?_)
      · replace h := cT h1 h
        refine a_skip ?_
        refine a_seq ?_
        refine a_block ?_
        refine a_seq ?_
        refine a_run [0, 1, 5, 7, 8] tyOK (st1 := mk 19 [(0, lV 6 eLock p0), (1, .one (.c (.fn 105 [.bx [iC q0.c, iC q0.e, iC q0.n]]))), (5, iV s1), (7, iV (((((p0).map eLock).length : Nat) : Int))), (8, iV s1)] []) (by kernel_rfl) ?_
        refine a_seq ?_
        refine a_ops [0, 1, 2, 3, 4, 5] (by kernel_rfl) ?_
        refine ao_someM [0, 1, 2] [3, 4, 5] tyOK (l1 := [(0, lV 6 eLock p0), (1, .one (.c (.fn 105 [.bx [iC q0.c, iC q0.e, iC q0.n]]))), (5, iV s1), (7, iV (((((p0).map eLock).length : Nat) : Int))), (8, iV s1), (11, .one (.c (.fn 105 [.bx [iC q0.c, iC q0.e, iC q0.n]]))), (12, lV 6 eLock p0), (13, iV s1)]) (by kernel_rfl) ?_
        obtain ⟨x1, ex1, h⟩ := bnd_e h
        refine ao_indexM (d := 14) (size := 6) (n := s1) (rows := (p0).map eLock) (l1 := [(0, lV 6 eLock p0), (1, .one (.c (.fn 105 [.bx [iC q0.c, iC q0.e, iC q0.n]]))), (5, iV s1), (7, iV (((((p0).map eLock).length : Nat) : Int))), (8, iV s1), (11, .one (.c (.fn 105 [.bx [iC q0.c, iC q0.e, iC q0.n]]))), (14, .one (.fp [iC x1.tx.c, iC x1.tx.e, iC x1.tx.n, sC x1.range.lo, sC x1.range.hi, bC x1.ex] 0))]) (eLock x1) tyOK (by kernel_rfl) (getI_e ex1).1 (show ((p0).map eLock)[_]? = some _ from by rw [List.getElem?_map, (getI_e ex1).2]; rfl) (by kernel_rfl) (by kernel_rfl) ?_
        refine ao_some [4] [5] [0, 1, 5, 7, 8, 11, 15] tyOK (st1 := mk 19 [(0, lV 6 eLock p0), (1, .one (.c (.fn 105 [.bx [iC q0.c, iC q0.e, iC q0.n]]))), (5, iV s1), (7, iV (((((p0).map eLock).length : Nat) : Int))), (8, iV s1), (11, .one (.c (.fn 105 [.bx [iC q0.c, iC q0.e, iC q0.n]]))), (15, .agg [.c (iC x1.tx.c), .c (iC x1.tx.e), .c (iC x1.tx.n), .c (sC x1.range.lo), .c (sC x1.range.hi), .c (bC x1.ex)])] []) (by kernel_rfl) ?_
        refine ao_callv (f := 105) (d := 16) (A := [.agg [.c (iC x1.tx.c), .c (iC x1.tx.e), .c (iC x1.tx.n), .c (sC x1.range.lo), .c (sC x1.range.hi), .c (bC x1.ex)], .one (.c (.bx [iC q0.c, iC q0.e, iC q0.n]))]) (A' := [.agg [.c (iC x1.tx.c), .c (iC x1.tx.e), .c (iC x1.tx.n), .c (sC x1.range.lo), .c (sC x1.range.hi), .c (bC x1.ex)], .one (.c (.bx [iC q0.c, iC q0.e, iC q0.n]))]) (st1 := mk 19 [(0, lV 6 eLock p0), (1, .one (.c (.fn 105 [.bx [iC q0.c, iC q0.e, iC q0.n]]))), (5, iV s1), (7, iV (((((p0).map eLock).length : Nat) : Int))), (8, iV s1), (16, bV (i_Locks_free_c1 x1 q0))] []) [0, 1, 5, 7, 8, 16] (k_i_Locks_free_c1 x1 q0 _ rfl) Try.call105 (by kernel_rfl) (.cons (.agg (.cons (.same rfl) (.cons (.same rfl) (.cons (.same rfl) (.cons (.same rfl) (.cons (.same rfl) (.cons (.same rfl) .nil))))))) (.cons (.one (.same rfl)) .nil)) rfl (clean_nil) (by kernel_rfl) (by kernel_rfl) ?_
        refine ao_nil ?_
        refine a_cond (b := i_Locks_free_c1 x1 q0) (by kernel_rfl) (fun h2 => ?_) (fun h2 => ?_)
        · replace h := cT h2 h
          refine a_seq ?_
          refine a_runM tyOK (l1 := [(4, iV s1)]) (by kernel_rfl) ?_
          refine a_ret ?_
          obtain rfl := Option.some.inj h
          obtain rfl := zy2 _ rfl
          obtain rfl := zy1 _ rfl
          exact end_eq (res' := iV s1) (by kernel_rfl) (by first | rfl | simp)
        · replace h := cF h2 h
          refine a_skip ?_
          refine a_runM tyOK (l1 := [(0, lV 6 eLock p0), (1, .one (.c (.fn 105 [.bx [iC q0.c, iC q0.e, iC q0.n]]))), (7, iV (((((p0).map eLock).length : Nat) : Int))), (8, iV (IntKind.wrap .i64 (s1 + 1)))]) (by kernel_rfl) ?_
          obtain rfl := Option.some.inj h
          show ∃ _, _ ∧ Imp _ _ _
          refine ⟨_, rfl, ?_⟩
          exact imp_keepTo [0, 1, 7, 8] (by kernel_rfl) (imp_done rfl)
      · replace h := cF h1 h
        refine a_exit ?_
        obtain rfl := Option.some.inj h
        obtain rfl := zy2 _ rfl
        show ∃ _, _ ∧ Imp _ _ _
        refine ⟨_, rfl, ?_⟩
        exact imp_keepTo [] (by kernel_rfl) (imp_done rfl)
    intro j1 hj1
    replace h := ky1 _ hj1
    refine a_seq ?_
    refine a_run [4] tyOK (st1 := mk 19 [(4, iV (-1))] []) (by kernel_rfl) ?_
    refine a_ret ?_
    obtain rfl := Option.some.inj h
    exact end_eq (res' := iV (-1)) (by kernel_rfl) (by first | rfl | simp)

end Go.Proofs.Ytagoajkiccgmjaa
namespace Go.Proofs.Ytagoajkiccgmjaa
open Go.Mv Go.RowKit
structure Xsl_DeleteFunc_Lock_i_Locks_free_c1_1 where
  v5 : Int
  w0_0 : (List Lock)

structure Ssl_DeleteFunc_Lock_i_Locks_free_c1_1 where
  v5 : Int
  v6 : Int
  w0_0 : (List Lock)

structure Xsl_DeleteFunc_Lock_i_Locks_free_c1_2 where
  v5 : Int
  w0_0 : (List Lock)

noncomputable def Bsl_DeleteFunc_Lock_i_Locks_free_c1_1 (q0 : Tx) (s1 : Ssl_DeleteFunc_Lock_i_Locks_free_c1_1) : Option (Ssl_DeleteFunc_Lock_i_Locks_free_c1_1 ⊕ Xsl_DeleteFunc_Lock_i_Locks_free_c1_1) :=
 bif (decide (s1.v6 < ((((s1.w0_0).length : Nat) : Int)))) then
 (bnd (getI s1.w0_0 s1.v6) fun x1 =>
 bnd (bif (!(i_Locks_free_c1 x1 q0)) then
 (bnd (getI s1.w0_0 s1.v5) fun x2 =>
 some ((⟨IntKind.wrap .i64 (s1.v5 + 1), s1.w0_0.set ((s1.v5).toNat) x1⟩ : Xsl_DeleteFunc_Lock_i_Locks_free_c1_2)))
 else
 (some ((⟨s1.v5, s1.w0_0⟩ : Xsl_DeleteFunc_Lock_i_Locks_free_c1_2)))) fun j1 =>
 some (.inl ((⟨j1.v5, IntKind.wrap .i64 (s1.v6 + 1), j1.w0_0⟩ : Ssl_DeleteFunc_Lock_i_Locks_free_c1_1))))
 else
 (some (.inr ((⟨s1.v5, s1.w0_0⟩ : Xsl_DeleteFunc_Lock_i_Locks_free_c1_1))))

noncomputable def sl_DeleteFunc_Lock_i_Locks_free_c1 (p0 : (List Lock)) (q0 : Tx) : Option ((List Lock)) :=
 bnd (sl_IndexFunc_Lock_i_Locks_free_c1 p0 q0) fun r1 =>
 bif ((r1 == (-1))) then
 (some p0)
 else
 (bnd (loopT (Bsl_DeleteFunc_Lock_i_Locks_free_c1_1 q0) ((⟨r1, IntKind.wrap .i64 (r1 + 1), p0⟩ : Ssl_DeleteFunc_Lock_i_Locks_free_c1_1))) fun j2 =>
 chk (0 ≤ (j2.v5 : Int) ∧ (j2.v5 : Int) ≤ ((((j2.w0_0).length : Nat) : Int)) ∧ ((((j2.w0_0).length : Nat) : Int)) ≤ (((j2.w0_0).length : Nat) : Int)) <|
 chk (0 ≤ (0 : Int) ∧ (0 : Int) ≤ j2.v5 ∧ j2.v5 ≤ (((j2.w0_0).length : Nat) : Int)) <|
 some (((j2.w0_0).take ((j2.v5 : Int).toNat)).take (j2.v5).toNat))
set_option maxHeartbeats 4000000 in
/-- slices.DeleteFunc[[]impl.Lock,impl.Lock] -/
theorem k_sl_DeleteFunc_Lock_i_Locks_free_c1 (p0 : (List Lock)) (q0 : Tx) (v : (List Lock)) (h : sl_DeleteFunc_Lock_i_Locks_free_c1 p0 q0 = some v) : CallG Try.prog 106 [lC 6 eLock p0] [.one (.so [] 0 0 ((p0).length)), .one (.c (.fn 105 [.bx [iC q0.c, iC q0.e, iC q0.n]]))] [] (.one (.so [] 0 0 ((v).length))) [lC 6 eLock v] :=
  callG tyOK Try.func106 rfl (by simp) fun w S γ hS => by
    unfold sl_DeleteFunc_Lock_i_Locks_free_c1 at h
    refine a_seq ?_
    refine a_run [0, 1] tyOK (st1 := mk 42 [(0, .one (.so [] 0 0 ((p0).length))), (1, .one (.c (.fn 105 [.bx [iC q0.c, iC q0.e, iC q0.n]])))] [(0, [lC 6 eLock p0])]) (by kernel_rfl) ?_
    refine a_seq ?_
    refine a_ops [0, 1, 2, 3] (by kernel_rfl) ?_
    refine ao_someM [0, 1] [2, 3] tyOK (l1 := [(0, .one (.so [] 0 0 ((p0).length))), (1, .one (.c (.fn 105 [.bx [iC q0.c, iC q0.e, iC q0.n]]))), (8, .one (.so [] 0 0 ((p0).length))), (9, .one (.c (.fn 105 [.bx [iC q0.c, iC q0.e, iC q0.n]])))]) (by kernel_rfl) ?_
    obtain ⟨r1, er1, h⟩ := bnd_e h
    refine ao_lend (f := 131) (d := 10) (A := [.one (.so [] 0 0 ((p0).length)), .one (.c (.fn 105 [.bx [iC q0.c, iC q0.e, iC q0.n]]))]) (A' := [lV 6 eLock p0, .one (.c (.fn 105 [.bx [iC q0.c, iC q0.e, iC q0.n]]))]) (st1 := mk 42 [(0, .one (.so [] 0 0 ((p0).length))), (1, .one (.c (.fn 105 [.bx [iC q0.c, iC q0.e, iC q0.n]]))), (10, iV r1)] [(0, [lC 6 eLock p0])]) [0, 1, 10] (k_sl_IndexFunc_Lock_i_Locks_free_c1 p0 q0 r1 er1) Try.call131 (by kernel_rfl) (.cons (.one (lend_so (by kernel_rfl) (by simp))) (.cons (.one (.same rfl)) .nil)) (by kernel_rfl) (clean_nil) (by kernel_rfl) (by kernel_rfl) ?_
    refine ao_someM [3] [] tyOK (l1 := [(0, .one (.so [] 0 0 ((p0).length))), (1, .one (.c (.fn 105 [.bx [iC q0.c, iC q0.e, iC q0.n]]))), (5, iV r1)]) (by kernel_rfl) ?_
    refine ao_nil ?_
    refine a_seq ?_
    refine a_seq ?_
    refine a_runM tyOK (l1 := [(0, .one (.so [] 0 0 ((p0).length))), (1, .one (.c (.fn 105 [.bx [iC q0.c, iC q0.e, iC q0.n]]))), (5, iV r1), (12, bV ((r1 == (-1))))]) (by kernel_rfl) ?_
    refine a_cond (b := (r1 == (-1))) (by kernel_rfl) (fun h1 => ?_) (fun h1 => ?_)
    · replace h := cT h1 h
      refine a_seq ?_
      refine a_runM tyOK (l1 := [(4, .one (.so [] 0 0 ((p0).length)))]) (by kernel_rfl) ?_
      refine a_ret ?_
      obtain rfl := Option.some.inj h
      exact end_g (ob := [(((p0).map eLock).length, (p0).length)]) (outs' := []) (res' := .one (.so [] 0 0 ((p0).length))) (row' := [lC 6 eLock p0]) (by kernel_rfl) ⟨by simp, trivial⟩ (by first | rfl | simp) (by first | rfl | simp) (by first | rfl | simp)
    · replace h := cF h1 h
      refine a_skip ?_
      refine a_seq ?_
      refine a_seq ?_
      refine a_runM tyOK (l1 := [(0, .one (.so [] 0 0 ((p0).length))), (1, .one (.c (.fn 105 [.bx [iC q0.c, iC q0.e, iC q0.n]]))), (5, iV r1), (6, iV (IntKind.wrap .i64 (r1 + 1)))]) (by kernel_rfl) ?_
      obtain ⟨y1, h, ky1⟩ := bndJ_e h
      refine a_joinT (ι := Xsl_DeleteFunc_Lock_i_Locks_free_c1_1) (fun j => mk 42 [(0, .one (.so [] 0 0 ((j.w0_0).length))), (5, iV j.v5)] [(0, [lC 6 eLock j.w0_0])]) (fun j => y1 = j) ?_ ?_
      · refine a_block ?_
        refine a_loopT (Bsl_DeleteFunc_Lock_i_Locks_free_c1_1 q0) (fun s1 => mk 42 [(0, .one (.so [] 0 0 ((s1.w0_0).length))), (1, .one (.c (.fn 105 [.bx [iC q0.c, iC q0.e, iC q0.n]]))), (5, iV s1.v5), (6, iV s1.v6)] [(0, [lC 6 eLock s1.w0_0])]) ((⟨r1, IntKind.wrap .i64 (r1 + 1), p0⟩ : Ssl_DeleteFunc_Lock_i_Locks_free_c1_1)) h ?_ ?_
        · exact imp_keepTo [0, 1, 5, 6] (by kernel_rfl) (imp_done rfl)
        intro s1 y2 h zy2
        unfold Bsl_DeleteFunc_Lock_i_Locks_free_c1_1 at h
        refine a_seq ?_
        refine a_seq ?_
        refine a_run [0, 1, 5, 6, 19] tyOK (st1 := mk 42 [(0, .one (.so [] 0 0 ((s1.w0_0).length))), (1, .one (.c (.fn 105 [.bx [iC q0.c, iC q0.e, iC q0.n]]))), (5, iV s1.v5), (6, iV s1.v6), (19, bV (decide (s1.v6 < ((((s1.w0_0).length : Nat) : Int)))))] [(0, [lC 6 eLock s1.w0_0])]) (by kernel_rfl) ?_
        refine a_cond (b := decide (s1.v6 < ((((s1.w0_0).length : Nat) : Int)))) (by kernel_rfl) (fun h2 => ?_) (fun h2 => ?_)
        · replace h := cT h2 h
          refine a_skip ?_
          refine a_seq ?_
          refine a_block ?_
          refine a_seq ?_
          refine a_ops [0, 1, 2, 3, 4, 5] (by kernel_rfl) ?_
          refine ao_some [0, 1] [2, 3, 4, 5] [0, 1, 5, 6, 22, 23] tyOK (st1 := mk 42 [(0, .one (.so [] 0 0 ((s1.w0_0).length))), (1, .one (.c (.fn 105 [.bx [iC q0.c, iC q0.e, iC q0.n]]))), (5, iV s1.v5), (6, iV s1.v6), (22, .one (.so [] 0 0 ((s1.w0_0).length))), (23, iV s1.v6)] [(0, [lC 6 eLock s1.w0_0])]) (by kernel_rfl) ?_
          obtain ⟨x1, ex1, h⟩ := bnd_e h
          refine ao_indexOwn (d := 24) (size := 6) (n0 := ((s1.w0_0).length)) (n := s1.v6) (p := [(0, 0)]) (rows := (s1.w0_0).map eLock) (st1 := mk 42 [(0, .one (.so [] 0 0 ((s1.w0_0).length))), (1, .one (.c (.fn 105 [.bx [iC q0.c, iC q0.e, iC q0.n]]))), (5, iV s1.v5), (6, iV s1.v6), (24, .one (.pl [(0, 0)] ((s1.v6).toNat) 0))] [(0, [lC 6 eLock s1.w0_0])]) [iC x1.tx.c, iC x1.tx.e, iC x1.tx.n, sC x1.range.lo, sC x1.range.hi, bC x1.ex] [0, 1, 5, 6, 24] tyOK (by kernel_rfl) (by simpa using getI_both ex1) (by exact get_map (en := eLock) (getI_e ex1).2) (by kernel_rfl) (by kernel_rfl) ?_
          refine ao_P (d := 25) (op := .load 47 (.tmp 24)) (tv := .agg [.c (iC x1.tx.c), .c (iC x1.tx.e), .c (iC x1.tx.n), .c (sC x1.range.lo), .c (sC x1.range.hi), .c (bC x1.ex)]) (st1 := mk 42 [(0, .one (.so [] 0 0 ((s1.w0_0).length))), (1, .one (.c (.fn 105 [.bx [iC q0.c, iC q0.e, iC q0.n]]))), (5, iV s1.v5), (6, iV s1.v6), (25, .agg [.c (iC x1.tx.c), .c (iC x1.tx.e), .c (iC x1.tx.n), .c (sC x1.range.lo), .c (sC x1.range.hi), .c (bC x1.ex)])] [(0, [lC 6 eLock s1.w0_0])]) [0, 1, 5, 6, 25] tyOK (by kernel_rfl) (stepP_loadOwn (size := 6) (n := ((s1.v6).toNat)) (f := 0) (agg := true) (p := [(0, 0)]) (rows := (s1.w0_0).map eLock) [iC x1.tx.c, iC x1.tx.e, iC x1.tx.n, sC x1.range.lo, sC x1.range.hi, bC x1.ex] (by kernel_rfl) (get_map (en := eLock) (getI_e ex1).2) (by kernel_rfl) (by kernel_rfl)) (by kernel_rfl) ?_
          refine ao_some [4, 5] [] [0, 1, 5, 6, 7] tyOK (st1 := mk 42 [(0, .one (.so [] 0 0 ((s1.w0_0).length))), (1, .one (.c (.fn 105 [.bx [iC q0.c, iC q0.e, iC q0.n]]))), (5, iV s1.v5), (6, iV s1.v6), (7, pV 7)] [(0, [lC 6 eLock s1.w0_0]), (7, [.bx [iC x1.tx.c, iC x1.tx.e, iC x1.tx.n, sC x1.range.lo, sC x1.range.hi, bC x1.ex]])]) (by kernel_rfl) ?_
          refine ao_nil ?_
          refine a_seq ?_
          refine a_ops [0, 1, 2, 3] (by kernel_rfl) ?_
          refine ao_someM [0, 1] [2, 3] tyOK (l1 := [(0, .one (.so [] 0 0 ((s1.w0_0).length))), (1, .one (.c (.fn 105 [.bx [iC q0.c, iC q0.e, iC q0.n]]))), (5, iV s1.v5), (6, iV s1.v6), (7, pV 7), (26, .one (.c (.fn 105 [.bx [iC q0.c, iC q0.e, iC q0.n]]))), (27, .agg [.c (iC x1.tx.c), .c (iC x1.tx.e), .c (iC x1.tx.n), .c (sC x1.range.lo), .c (sC x1.range.hi), .c (bC x1.ex)])]) (by kernel_rfl) ?_
          refine ao_callv (f := 105) (d := 28) (A := [.agg [.c (iC x1.tx.c), .c (iC x1.tx.e), .c (iC x1.tx.n), .c (sC x1.range.lo), .c (sC x1.range.hi), .c (bC x1.ex)], .one (.c (.bx [iC q0.c, iC q0.e, iC q0.n]))]) (A' := [.agg [.c (iC x1.tx.c), .c (iC x1.tx.e), .c (iC x1.tx.n), .c (sC x1.range.lo), .c (sC x1.range.hi), .c (bC x1.ex)], .one (.c (.bx [iC q0.c, iC q0.e, iC q0.n]))]) (st1 := mk 42 [(0, .one (.so [] 0 0 ((s1.w0_0).length))), (1, .one (.c (.fn 105 [.bx [iC q0.c, iC q0.e, iC q0.n]]))), (5, iV s1.v5), (6, iV s1.v6), (7, pV 7), (28, bV (i_Locks_free_c1 x1 q0))] [(0, [lC 6 eLock s1.w0_0]), (7, [.bx [iC x1.tx.c, iC x1.tx.e, iC x1.tx.n, sC x1.range.lo, sC x1.range.hi, bC x1.ex]])]) [0, 1, 5, 6, 7, 28] (k_i_Locks_free_c1 x1 q0 _ rfl) Try.call105 (by kernel_rfl) (.cons (.agg (.cons (.same rfl) (.cons (.same rfl) (.cons (.same rfl) (.cons (.same rfl) (.cons (.same rfl) (.cons (.same rfl) .nil))))))) (.cons (.one (.same rfl)) .nil)) rfl (clean_nil) (by kernel_rfl) (by kernel_rfl) ?_
          refine ao_someM [3] [] tyOK (l1 := [(0, .one (.so [] 0 0 ((s1.w0_0).length))), (1, .one (.c (.fn 105 [.bx [iC q0.c, iC q0.e, iC q0.n]]))), (5, iV s1.v5), (6, iV s1.v6), (7, pV 7), (29, bV (!(i_Locks_free_c1 x1 q0)))]) (by kernel_rfl) ?_
          refine ao_nil ?_
          obtain ⟨y3, h, ky3⟩ := bndJ_e h
          refine a_joinT (ι := Xsl_DeleteFunc_Lock_i_Locks_free_c1_2) (fun j => mk 42 [(0, .one (.so [] 0 0 ((j.w0_0).length))), (1, .one (.c (.fn 105 [.bx [iC q0.c, iC q0.e, iC q0.n]]))), (5, iV j.v5), (6, iV s1.v6)] [(0, [lC 6 eLock j.w0_0])]) (fun j => y3 = j) ?_ ?_
          · refine a_cond (b := !(i_Locks_free_c1 x1 q0)) (by kernel_rfl) (fun h3 => ?_) (fun h3 => ?_)
            · replace h := cT h3 h
              refine a_seq ?_
              refine a_ops [0, 1, 2, 3, 4] (by kernel_rfl) ?_
              refine ao_some [0, 1, 2] [3, 4] [0, 1, 5, 6, 30, 31, 32] tyOK (st1 := mk 42 [(0, .one (.so [] 0 0 ((s1.w0_0).length))), (1, .one (.c (.fn 105 [.bx [iC q0.c, iC q0.e, iC q0.n]]))), (5, iV s1.v5), (6, iV s1.v6), (30, .one (.so [] 0 0 ((s1.w0_0).length))), (31, iV s1.v5), (32, .agg [.c (iC x1.tx.c), .c (iC x1.tx.e), .c (iC x1.tx.n), .c (sC x1.range.lo), .c (sC x1.range.hi), .c (bC x1.ex)])] [(0, [lC 6 eLock s1.w0_0])]) (by kernel_rfl) ?_
              obtain ⟨x2, ex2, h⟩ := bnd_e h
              refine ao_indexOwn (d := 33) (size := 6) (n0 := ((s1.w0_0).length)) (n := s1.v5) (p := [(0, 0)]) (rows := (s1.w0_0).map eLock) (st1 := mk 42 [(0, .one (.so [] 0 0 ((s1.w0_0).length))), (1, .one (.c (.fn 105 [.bx [iC q0.c, iC q0.e, iC q0.n]]))), (5, iV s1.v5), (6, iV s1.v6), (32, .agg [.c (iC x1.tx.c), .c (iC x1.tx.e), .c (iC x1.tx.n), .c (sC x1.range.lo), .c (sC x1.range.hi), .c (bC x1.ex)]), (33, .one (.pl [(0, 0)] ((s1.v5).toNat) 0))] [(0, [lC 6 eLock s1.w0_0])]) [iC x2.tx.c, iC x2.tx.e, iC x2.tx.n, sC x2.range.lo, sC x2.range.hi, bC x2.ex] [0, 1, 5, 6, 32, 33] tyOK (by kernel_rfl) (by simpa using getI_both ex2) (by exact get_map (en := eLock) (getI_e ex2).2) (by kernel_rfl) (by kernel_rfl) ?_
              refine ao_storeAt (n := ((s1.v5).toNat)) (f := 0) (q := [(0, 0)]) (rows := (s1.w0_0).map eLock) (rows' := (s1.w0_0.set ((s1.v5).toNat) x1).map eLock) (szs := []) (ts := [.c (iC x1.tx.c), .c (iC x1.tx.e), .c (iC x1.tx.n), .c (sC x1.range.lo), .c (sC x1.range.hi), .c (bC x1.ex)]) (t1 := (mk 42 [(0, .one (.so [] 0 0 ((s1.w0_0).length))), (1, .one (.c (.fn 105 [.bx [iC q0.c, iC q0.e, iC q0.n]]))), (5, iV s1.v5), (6, iV s1.v6), (32, .agg [.c (iC x1.tx.c), .c (iC x1.tx.e), .c (iC x1.tx.n), .c (sC x1.range.lo), .c (sC x1.range.hi), .c (bC x1.ex)]), (33, .one (.pl [(0, 0)] ((s1.v5).toNat) 0))] [(0, [lC 6 eLock s1.w0_0])]).t) (st1 := mk 42 [(0, .one (.so [] 0 0 ((s1.w0_0).length))), (1, .one (.c (.fn 105 [.bx [iC q0.c, iC q0.e, iC q0.n]]))), (5, iV s1.v5), (6, iV s1.v6)] [(0, [lC 6 eLock (s1.w0_0.set ((s1.v5).toNat) x1)])]) [iC x2.tx.c, iC x2.tx.e, iC x2.tx.n, sC x2.range.lo, sC x2.range.hi, bC x2.ex] [0, 1, 5, 6] tyOK (by kernel_rfl) (by exact get_map (en := eLock) (getI_e ex2).2) (Nat.le_of_ble_eq_true rfl) (by kernel_rfl) (by exact set_map_row0 rfl) (by kernel_rfl) ?_
              refine ao_nil ?_
              refine a_runM tyOK (l1 := [(0, .one (.so [] 0 0 ((s1.w0_0).length))), (1, .one (.c (.fn 105 [.bx [iC q0.c, iC q0.e, iC q0.n]]))), (5, iV (IntKind.wrap .i64 (s1.v5 + 1))), (6, iV s1.v6)]) (by kernel_rfl) ?_
              obtain rfl := Option.some.inj h
              show ∃ _, _ ∧ Imp _ _ _
              refine ⟨_, rfl, ?_⟩
              refine imp_says 0 (t := .one (.so [] 0 0 ((s1.w0_0).length))) (t' := .one (.so [] 0 0 ((s1.w0_0.set ((s1.v5).toNat) x1).length))) [0, 1, 5, 6] (s1 := mk 42 [(0, .one (.so [] 0 0 ((s1.w0_0.set ((s1.v5).toNat) x1).length))), (1, .one (.c (.fn 105 [.bx [iC q0.c, iC q0.e, iC q0.n]]))), (5, iV (IntKind.wrap .i64 (s1.v5 + 1))), (6, iV s1.v6)] [(0, [lC 6 eLock (s1.w0_0.set ((s1.v5).toNat) x1)])]) (by kernel_rfl) (by simp) (by kernel_rfl) ?_
              exact imp_keepTo [0, 1, 5, 6] (by kernel_rfl) (imp_done rfl)
            · replace h := cF h3 h
              refine a_skip ?_
              obtain rfl := Option.some.inj h
              show ∃ _, _ ∧ Imp _ _ _
              refine ⟨_, rfl, ?_⟩
              exact imp_keepTo [0, 1, 5, 6] (by kernel_rfl) (imp_done rfl)
          intro j1 hj1
          replace h := ky3 _ hj1
          refine a_run [0, 1, 5, 6] tyOK (st1 := mk 42 [(0, .one (.so [] 0 0 ((j1.w0_0).length))), (1, .one (.c (.fn 105 [.bx [iC q0.c, iC q0.e, iC q0.n]]))), (5, iV j1.v5), (6, iV (IntKind.wrap .i64 (s1.v6 + 1)))] [(0, [lC 6 eLock j1.w0_0])]) (by kernel_rfl) ?_
          obtain rfl := Option.some.inj h
          show ∃ _, _ ∧ Imp _ _ _
          refine ⟨_, rfl, ?_⟩
          exact imp_keepTo [0, 1, 5, 6] (by kernel_rfl) (imp_done rfl)
        · replace h := cF h2 h
          refine a_exit ?_
          obtain rfl := Option.some.inj h
          obtain rfl := zy2 _ rfl
          show ∃ _, _ ∧ Imp _ _ _
          refine ⟨_, rfl, ?_⟩
          exact imp_keepTo [0, 5] (by kernel_rfl) (imp_done rfl)
      intro j2 hj2
      replace h := ky1 _ hj2
      refine a_seq ?_
      refine a_ops [0, 1, 2, 3] (by kernel_rfl) ?_
      refine ao_some [0, 1] [2, 3] [0, 5, 36, 37] tyOK (st1 := mk 42 [(0, .one (.so [] 0 0 ((j2.w0_0).length))), (5, iV j2.v5), (36, .one (.so [] 0 0 ((j2.w0_0).length))), (37, iV j2.v5)] [(0, [lC 6 eLock j2.w0_0])]) (by kernel_rfl) ?_
      obtain ⟨c1, h⟩ := chk_e h
      refine ao_P (d := 38) (op := .slice 41 (.tmp 36) (some (.tmp 37)) none none) (tv := .one (.sp [(0, 0)] ((j2.v5 : Int).toNat) ((((((j2.w0_0).length : Nat) : Int)) - j2.v5).toNat))) (st1 := mk 42 [(0, .one (.so [] 0 0 ((j2.w0_0).length))), (5, iV j2.v5), (38, .one (.sp [(0, 0)] ((j2.v5 : Int).toNat) ((((((j2.w0_0).length : Nat) : Int)) - j2.v5).toNat)))] [(0, [lC 6 eLock j2.w0_0])]) [0, 5, 38] tyOK (by kernel_rfl) (stepP_sub (p := [(0, 0)]) (n := ((j2.w0_0).length)) (size := 6) (l := j2.v5) (h := (((j2.w0_0).length : Nat) : Int)) (rows := (j2.w0_0).map eLock) (by kernel_rfl) c1 (by first | omega | (simp <;> omega)) (by simp [bC, eLock, eRange, eTx, frzC, iC, sC])) (by kernel_rfl) ?_
      refine ao_clear (k := 0) (d := 38) (q := []) (i := 0) (f := 0) (lo := ((j2.v5 : Int).toNat)) (n := ((((((j2.w0_0).length : Nat) : Int)) - j2.v5).toNat)) (n0 := ((j2.w0_0).length)) (sz := 6) (rows := (j2.w0_0).map eLock) (rows' := ((j2.w0_0).take ((j2.v5 : Int).toNat)).map eLock) (st1 := mk 42 [(0, .one (.so [] 38 0 ((j2.w0_0).length))), (5, iV j2.v5)] [(38, [lC 6 eLock ((j2.w0_0).take ((j2.v5 : Int).toNat))])]) [0, 5] tyOK (by kernel_rfl) (by first | omega | (simp <;> omega)) (by first | omega | (simp <;> omega)) (by kernel_rfl) (by simp [List.map_take]) (by kernel_rfl) ?_
      refine ao_nil ?_
      refine a_seq ?_
      refine a_ops [0, 1, 2, 3] (by kernel_rfl) ?_
      refine ao_someM [0, 1] [2, 3] tyOK (l1 := [(39, .one (.so [] 38 0 ((j2.w0_0).length))), (40, iV j2.v5)]) (by kernel_rfl) ?_
      obtain ⟨c2, h⟩ := chk_e h
      refine ao_cut (d := 41) (q := []) (i := 38) (f := 0) (n := ((j2.w0_0).length)) (sz := 6) (rows := ((j2.w0_0).take ((j2.v5 : Int).toNat)).map eLock) (rows' := (((j2.w0_0).take ((j2.v5 : Int).toNat)).take (j2.v5).toNat).map eLock) (h := j2.v5) (st1 := mk 42 [(41, .one (.so [] 41 0 ((j2.v5).toNat)))] [(41, [lC 6 eLock (((j2.w0_0).take ((j2.v5 : Int).toNat)).take (j2.v5).toNat)])]) [41] tyOK (by kernel_rfl) (by omega) (by first | omega | (simp <;> omega)) (by kernel_rfl) (by simp [List.map_take]) (by kernel_rfl) ?_
      refine ao_someM [3] [] tyOK (l1 := [(4, .one (.so [] 41 0 ((j2.v5).toNat)))]) (by kernel_rfl) ?_
      refine ao_nil ?_
      refine a_ret ?_
      obtain rfl := Option.some.inj h
      exact end_g (ob := [(((((j2.w0_0).take ((j2.v5 : Int).toNat)).take (j2.v5).toNat).map eLock).length, (j2.v5).toNat)]) (outs' := []) (res' := .one (.so [] 0 0 ((j2.v5).toNat))) (row' := [lC 6 eLock (((j2.w0_0).take ((j2.v5 : Int).toNat)).take (j2.v5).toNat)]) (by kernel_rfl) ⟨by simp <;> omega, trivial⟩ (by first | rfl | (simp; done) | (simp; omega)) (by first | rfl | (simp; done) | (simp; omega)) (by first | rfl | (simp; done) | (simp; omega))

end Go.Proofs.Ytagoajkiccgmjaa
namespace Go.Proofs.Ytagoajkiccgmjaa
open Go.Mv Go.RowKit
structure Xi_Locks_free_1 where
  v6 : (List Lock)
  v7 : (List Lock)
  w0_0_0 : (List Lock)

structure Si_Locks_free_1 where
  v6 : (List Lock)
  v7 : (List Lock)
  v29 : Int
  w0_0_0 : (List Lock)

structure Xi_Locks_free_2 where
  v6 : (List Lock)
  v7 : (List Lock)
  w0_0_0 : (List Lock)

noncomputable def Bi_Locks_free_1 (r2 : (List Lock)) (s1 : Si_Locks_free_1) : Option (Si_Locks_free_1 ⊕ Xi_Locks_free_1) :=
 bif (decide (s1.v29 < ((((r2).length : Nat) : Int)))) then
 (bnd (getI r2 s1.v29) fun x1 =>
 bnd (i_isFree x1 ([s1.w0_0_0, s1.v7])) fun r3 =>
 bnd (bif r3 then
 (chk (((s1.w0_0_0).length + (([x1] : List Lock)).length) * 64 ≤ 140737488355328) <|
 chk (((s1.v6).length + (([x1] : List Lock)).length) * 64 ≤ 140737488355328) <|
 some ((⟨s1.v6 ++ ([x1] : List Lock), s1.v7, s1.w0_0_0 ++ ([x1] : List Lock)⟩ : Xi_Locks_free_2)))
 else
 (chk (((s1.v7).length + (([x1] : List Lock)).length) * 64 ≤ 140737488355328) <|
 some ((⟨s1.v6, s1.v7 ++ ([x1] : List Lock), s1.w0_0_0⟩ : Xi_Locks_free_2)))) fun j1 =>
 some (.inl ((⟨j1.v6, j1.v7, IntKind.wrap .i64 (s1.v29 + 1), j1.w0_0_0⟩ : Si_Locks_free_1))))
 else
 (some (.inr ((⟨s1.v6, s1.v7, s1.w0_0_0⟩ : Xi_Locks_free_1))))

noncomputable def i_Locks_free (p0 : Locks) (p1 : Tx) : Option (Locks × (List Lock)) :=
 bnd (sl_DeleteFunc_Lock_i_Locks_free_c1 p0.held p1) fun r1 =>
 bnd (sl_DeleteFunc_Lock_i_Locks_free_c1 p0.wait p1) fun r2 =>
 bnd (loopT (Bi_Locks_free_1 r2) ((⟨[], [], 0, r1⟩ : Si_Locks_free_1))) fun j2 =>
 some (((⟨j2.w0_0_0, j2.v7⟩ : Locks), j2.v6))
set_option maxHeartbeats 4000000 in
/-- (*impl.Locks).free -/
theorem k_i_Locks_free (p0 : Locks) (p1 : Tx) (v : Locks × (List Lock)) (h : i_Locks_free p0 p1 = some v) : CallG Try.prog 66 [.bx [lC 6 eLock p0.held, lC 6 eLock p0.wait]] [pV 0, .agg [.c (iC p1.c), .c (iC p1.e), .c (iC p1.n)]] [.bx [lC 6 eLock v.1.held, lC 6 eLock v.1.wait]] (.one (.so [] 0 0 ((v.2).length))) [lC 6 eLock v.2] :=
  callG tyOK Try.func66 rfl (by simp) fun w S γ hS => by
    unfold i_Locks_free at h
    refine a_seq ?_
    refine a_ops [0, 1] (by kernel_rfl) ?_
    refine ao_boxC (st1 := mk 65 [(0, pV 0), (3, .one (.c (.bx [iC p1.c, iC p1.e, iC p1.n])))] [(0, [.bx [lC 6 eLock p0.held, lC 6 eLock p0.wait]])]) [0, 3] tyOK (by kernel_rfl) ?_
    refine ao_someM [1] [] tyOK (l1 := [(0, pV 0), (3, .one (.c (.bx [iC p1.c, iC p1.e, iC p1.n])))]) (by kernel_rfl) ?_
    refine ao_nil ?_
    refine a_seq ?_
    refine a_ops [0, 1] (by kernel_rfl) ?_
    refine ao_fn (d := 10) (f := 105) (cs := [.bx [iC p1.c, iC p1.e, iC p1.n]]) (st1 := mk 65 [(0, pV 0), (10, .one (.c (.fn 105 [.bx [iC p1.c, iC p1.e, iC p1.n]])))] [(0, [.bx [lC 6 eLock p0.held, lC 6 eLock p0.wait]])]) [0, 10] (by kernel_rfl) (by kernel_rfl) ?_
    refine ao_someM [1] [] tyOK (l1 := [(0, pV 0), (5, .one (.c (.fn 105 [.bx [iC p1.c, iC p1.e, iC p1.n]])))]) (by kernel_rfl) ?_
    refine ao_nil ?_
    refine a_seq ?_
    refine a_ops [0, 1, 2, 3, 4, 5, 6, 7, 8, 9] (by kernel_rfl) ?_
    refine ao_someM [0, 1, 2, 3, 4, 5] [6, 7, 8, 9] tyOK (l1 := [(0, pV 0), (5, .one (.c (.fn 105 [.bx [iC p1.c, iC p1.e, iC p1.n]]))), (11, pV 0), (15, .one (.so [(0, 0)] 0 0 (((p0.held).map eLock).length))), (16, .one (.c (.fn 105 [.bx [iC p1.c, iC p1.e, iC p1.n]])))]) (by kernel_rfl) ?_
    refine ao_saysM (k := 15) (t := .one (.so [(0, 0)] 0 0 (((p0.held).map eLock).length))) (t' := .one (.so [(0, 0)] 0 0 ((p0.held).length))) (l1 := [(0, pV 0), (5, .one (.c (.fn 105 [.bx [iC p1.c, iC p1.e, iC p1.n]]))), (11, pV 0), (15, .one (.so [(0, 0)] 0 0 ((p0.held).length))), (16, .one (.c (.fn 105 [.bx [iC p1.c, iC p1.e, iC p1.n]])))]) (by kernel_rfl) (by simp) (by kernel_rfl) ?_
    obtain ⟨r1, er1, h⟩ := bnd_e h
    refine ao_g2 (g := 106) (d := 17) (A := [.one (.so [(0, 0)] 0 0 ((p0.held).length)), .one (.c (.fn 105 [.bx [iC p1.c, iC p1.e, iC p1.n]]))]) (A' := [.one (.so [] 0 0 ((p0.held).length)), .one (.c (.fn 105 [.bx [iC p1.c, iC p1.e, iC p1.n]]))]) (cs := [lC 6 eLock p0.held]) (outs := []) (ps := [[(0, 0), (0, 0)]]) (st1 := mk 65 [(0, pV 0), (5, .one (.c (.fn 105 [.bx [iC p1.c, iC p1.e, iC p1.n]]))), (11, pV 0), (17, .one (.so [] 17 0 ((r1).length)))] [(0, [.bx [.dead, lC 6 eLock p0.wait]]), (17, [lC 6 eLock r1])]) [0, 5, 11, 17] (k_sl_DeleteFunc_Lock_i_Locks_free_c1 p0.held p1 r1 er1) Try.call106 (by kernel_rfl) (.cons (.one (.so 0 rfl)) (.cons (.one (.same rfl)) .nil)) (handedN_of (szs := [6]) (by kernel_rfl)) (by kernel_rfl) .nil (wholeFIO _ _ _ _) (by kernel_rfl) (by kernel_rfl) ?_
    refine ao_someM [7, 8] [9] tyOK (l1 := [(0, pV 0), (5, .one (.c (.fn 105 [.bx [iC p1.c, iC p1.e, iC p1.n]]))), (17, .one (.so [] 17 0 ((r1).length))), (19, pV 0)]) (by kernel_rfl) ?_
    refine ao_o (ob := [(((r1).map eLock).length, (r1).length)]) (st1 := mk 65 [(0, pV 0), (5, .one (.c (.fn 105 [.bx [iC p1.c, iC p1.e, iC p1.n]])))] [(0, [.bx [lC 6 eLock r1, lC 6 eLock p0.wait]])]) [0, 5] tyOK (by kernel_rfl) ⟨by simp, trivial⟩ ?_
    refine ao_nil ?_
    refine a_seq ?_
    refine a_run [0, 5, 6, 7] tyOK (st1 := mk 65 [(0, pV 0), (5, .one (.c (.fn 105 [.bx [iC p1.c, iC p1.e, iC p1.n]]))), (6, .one (.so [] 20 0 0)), (7, .one (.so [] 21 0 0))] [(0, [.bx [lC 6 eLock r1, lC 6 eLock p0.wait]]), (20, [.sl 6 ([])]), (21, [.sl 6 ([])])]) (by kernel_rfl) ?_
    refine a_seq ?_
    refine a_seq ?_
    refine a_ops [0, 1, 2, 3, 4, 5, 6, 7] (by kernel_rfl) ?_
    refine ao_someM [0, 1, 2, 3, 4] [5, 6, 7] tyOK (l1 := [(0, pV 0), (6, .one (.so [] 20 0 0)), (7, .one (.so [] 21 0 0)), (25, .one (.so [(0, 0)] 0 1 (((p0.wait).map eLock).length))), (26, .one (.c (.fn 105 [.bx [iC p1.c, iC p1.e, iC p1.n]])))]) (by kernel_rfl) ?_
    refine ao_saysM (k := 25) (t := .one (.so [(0, 0)] 0 1 (((p0.wait).map eLock).length))) (t' := .one (.so [(0, 0)] 0 1 ((p0.wait).length))) (l1 := [(0, pV 0), (6, .one (.so [] 20 0 0)), (7, .one (.so [] 21 0 0)), (25, .one (.so [(0, 0)] 0 1 ((p0.wait).length))), (26, .one (.c (.fn 105 [.bx [iC p1.c, iC p1.e, iC p1.n]])))]) (by kernel_rfl) (by simp) (by kernel_rfl) ?_
    obtain ⟨r2, er2, h⟩ := bnd_e h
    refine ao_g2 (g := 106) (d := 27) (A := [.one (.so [(0, 0)] 0 1 ((p0.wait).length)), .one (.c (.fn 105 [.bx [iC p1.c, iC p1.e, iC p1.n]]))]) (A' := [.one (.so [] 0 0 ((p0.wait).length)), .one (.c (.fn 105 [.bx [iC p1.c, iC p1.e, iC p1.n]]))]) (cs := [lC 6 eLock p0.wait]) (outs := []) (ps := [[(0, 0), (0, 1)]]) (st1 := mk 65 [(0, pV 0), (6, .one (.so [] 20 0 0)), (7, .one (.so [] 21 0 0)), (27, .one (.so [] 27 0 ((r2).length)))] [(0, [.bx [lC 6 eLock r1, .dead]]), (20, [.sl 6 ([])]), (21, [.sl 6 ([])]), (27, [lC 6 eLock r2])]) [0, 6, 7, 27] (k_sl_DeleteFunc_Lock_i_Locks_free_c1 p0.wait p1 r2 er2) Try.call106 (by kernel_rfl) (.cons (.one (.so 0 rfl)) (.cons (.one (.same rfl)) .nil)) (handedN_of (szs := [6]) (by kernel_rfl)) (by kernel_rfl) .nil (wholeFIO _ _ _ _) (by kernel_rfl) (by kernel_rfl) ?_
    refine ao_someM [6, 7] [] tyOK (l1 := [(0, pV 0), (6, .one (.so [] 20 0 0)), (7, .one (.so [] 21 0 0)), (27, .one (.so [] 27 0 ((r2).length))), (28, iV ((((r2).length : Nat) : Int))), (29, iV 0)]) (by kernel_rfl) ?_
    refine ao_nil ?_
    obtain ⟨y1, h, ky1⟩ := bndJ_e h
    refine a_joinT (ι := Xi_Locks_free_1) (fun j => mk 65 [(0, pV 0), (6, .one (.so [] 6 0 ((j.v6).length))), (7, .one (.so [] 7 0 ((j.v7).length)))] [(0, [.bx [lC 6 eLock j.w0_0_0, .dead]]), (6, [lC 6 eLock j.v6]), (7, [lC 6 eLock j.v7])]) (fun j => y1 = j) ?_ ?_
    · refine a_block ?_
      refine a_loopT (Bi_Locks_free_1 r2) (fun s1 => mk 65 [(0, pV 0), (6, .one (.so [] 6 0 ((s1.v6).length))), (7, .one (.so [] 7 0 ((s1.v7).length))), (27, .one (.so [] 27 0 ((r2).length))), (28, iV ((((r2).length : Nat) : Int))), (29, iV s1.v29)] [(0, [.bx [lC 6 eLock s1.w0_0_0, .dead]]), (6, [lC 6 eLock s1.v6]), (7, [lC 6 eLock s1.v7]), (27, [lC 6 eLock r2])]) ((⟨[], [], 0, r1⟩ : Si_Locks_free_1)) h ?_ ?_
      · refine imp_rename 20 6 6 [0, 6, 7, 27, 28, 29] (s1 := mk 65 [(0, pV 0), (6, .one (.so [] 6 0 0)), (7, .one (.so [] 21 0 0)), (27, .one (.so [] 27 0 ((r2).length))), (28, iV ((((r2).length : Nat) : Int))), (29, iV 0)] [(0, [.bx [lC 6 eLock r1, .dead]]), (6, [.sl 6 ([])]), (21, [.sl 6 ([])]), (27, [lC 6 eLock r2])]) (by kernel_rfl) ?_
        refine imp_rename 21 7 7 [0, 6, 7, 27, 28, 29] (s1 := mk 65 [(0, pV 0), (6, .one (.so [] 6 0 0)), (7, .one (.so [] 7 0 0)), (27, .one (.so [] 27 0 ((r2).length))), (28, iV ((((r2).length : Nat) : Int))), (29, iV 0)] [(0, [.bx [lC 6 eLock r1, .dead]]), (6, [.sl 6 ([])]), (7, [.sl 6 ([])]), (27, [lC 6 eLock r2])]) (by kernel_rfl) ?_
        exact imp_keepTo [0, 6, 7, 27, 28, 29] (by kernel_rfl) (imp_done rfl)
      intro s1 y2 h zy2
      unfold Bi_Locks_free_1 at h
      refine a_seq ?_
      refine a_run [0, 6, 7, 27, 28, 29, 30] tyOK (st1 := mk 65 [(0, pV 0), (6, .one (.so [] 6 0 ((s1.v6).length))), (7, .one (.so [] 7 0 ((s1.v7).length))), (27, .one (.so [] 27 0 ((r2).length))), (28, iV ((((r2).length : Nat) : Int))), (29, iV s1.v29), (30, bV (decide (s1.v29 < ((((r2).length : Nat) : Int)))))] [(0, [.bx [lC 6 eLock s1.w0_0_0, .dead]]), (6, [lC 6 eLock s1.v6]), (7, [lC 6 eLock s1.v7]), (27, [lC 6 eLock r2])]) (by kernel_rfl) ?_
      refine a_seq ?_
      refine a_cond (b := decide (s1.v29 < ((((r2).length : Nat) : Int)))) (by kernel_rfl) (fun h1 => ?_) (fun h1 => ?_)
      · replace h := cT h1 h
        refine a_skip ?_
        refine a_seq ?_
        refine a_block ?_
        refine a_seq ?_
        refine a_ops [0, 1, 2, 3] (by kernel_rfl) ?_
        obtain ⟨x1, ex1, h⟩ := bnd_e h
        refine ao_indexOwn (d := 31) (size := 6) (n0 := ((r2).length)) (n := s1.v29) (p := [(27, 0)]) (rows := (r2).map eLock) (st1 := mk 65 [(0, pV 0), (6, .one (.so [] 6 0 ((s1.v6).length))), (7, .one (.so [] 7 0 ((s1.v7).length))), (27, .one (.so [] 27 0 ((r2).length))), (28, iV ((((r2).length : Nat) : Int))), (29, iV s1.v29), (31, .one (.pl [(27, 0)] ((s1.v29).toNat) 0))] [(0, [.bx [lC 6 eLock s1.w0_0_0, .dead]]), (6, [lC 6 eLock s1.v6]), (7, [lC 6 eLock s1.v7]), (27, [lC 6 eLock r2])]) [iC x1.tx.c, iC x1.tx.e, iC x1.tx.n, sC x1.range.lo, sC x1.range.hi, bC x1.ex] [0, 6, 7, 27, 28, 29, 31] tyOK (by kernel_rfl) (by simpa using getI_both ex1) (by exact get_map (en := eLock) (getI_e ex1).2) (by kernel_rfl) (by kernel_rfl) ?_
        refine ao_P (d := 32) (op := .load 47 (.tmp 31)) (tv := .agg [.c (iC x1.tx.c), .c (iC x1.tx.e), .c (iC x1.tx.n), .c (sC x1.range.lo), .c (sC x1.range.hi), .c (bC x1.ex)]) (st1 := mk 65 [(0, pV 0), (6, .one (.so [] 6 0 ((s1.v6).length))), (7, .one (.so [] 7 0 ((s1.v7).length))), (27, .one (.so [] 27 0 ((r2).length))), (28, iV ((((r2).length : Nat) : Int))), (29, iV s1.v29), (32, .agg [.c (iC x1.tx.c), .c (iC x1.tx.e), .c (iC x1.tx.n), .c (sC x1.range.lo), .c (sC x1.range.hi), .c (bC x1.ex)])] [(0, [.bx [lC 6 eLock s1.w0_0_0, .dead]]), (6, [lC 6 eLock s1.v6]), (7, [lC 6 eLock s1.v7]), (27, [lC 6 eLock r2])]) [0, 6, 7, 27, 28, 29, 32] tyOK (by kernel_rfl) (stepP_loadOwn (size := 6) (n := ((s1.v29).toNat)) (f := 0) (agg := true) (p := [(27, 0)]) (rows := (r2).map eLock) [iC x1.tx.c, iC x1.tx.e, iC x1.tx.n, sC x1.range.lo, sC x1.range.hi, bC x1.ex] (by kernel_rfl) (get_map (en := eLock) (getI_e ex1).2) (by kernel_rfl) (by kernel_rfl)) (by kernel_rfl) ?_
        refine ao_some [2, 3] [] [0, 6, 7, 9, 27, 28, 29] tyOK (st1 := mk 65 [(0, pV 0), (6, .one (.so [] 6 0 ((s1.v6).length))), (7, .one (.so [] 7 0 ((s1.v7).length))), (9, pV 9), (27, .one (.so [] 27 0 ((r2).length))), (28, iV ((((r2).length : Nat) : Int))), (29, iV s1.v29)] [(0, [.bx [lC 6 eLock s1.w0_0_0, .dead]]), (6, [lC 6 eLock s1.v6]), (7, [lC 6 eLock s1.v7]), (9, [.bx [iC x1.tx.c, iC x1.tx.e, iC x1.tx.n, sC x1.range.lo, sC x1.range.hi, bC x1.ex]]), (27, [lC 6 eLock r2])]) (by kernel_rfl) ?_
        refine ao_nil ?_
        refine a_seq ?_
        obtain ⟨r3, er3, h⟩ := bnd_e h
        refine a_mid (mk 65 [(0, pV 0), (6, .one (.so [] 6 0 ((s1.v6).length))), (7, .one (.so [] 7 0 ((s1.v7).length))), (9, pV 9), (27, .one (.so [] 27 0 ((r2).length))), (28, iV ((((r2).length : Nat) : Int))), (29, iV s1.v29), (40, bV r3)] [(0, [.bx [lC 6 eLock s1.w0_0_0, .dead]]), (6, [lC 6 eLock s1.v6]), (7, [lC 6 eLock s1.v7]), (9, [.bx [iC x1.tx.c, iC x1.tx.e, iC x1.tx.n, sC x1.range.lo, sC x1.range.hi, bC x1.ex]]), (27, [lC 6 eLock r2])]) ?_ ?_
        · refine a_drawn (n := 8) [] (by kernel_rfl) (by kernel_rfl) ?_
          refine aa_takeM (fuel := 2) (listed' := #[true, true, true, true, true, true, false, false]) (l1 := [(0, pV 0), (6, .one (.so [] 6 0 ((s1.v6).length))), (7, .one (.so [] 7 0 ((s1.v7).length))), (9, pV 9), (27, .one (.so [] 27 0 ((r2).length))), (28, iV ((((r2).length : Nat) : Int))), (29, iV s1.v29), (33, .agg [.c (iC x1.tx.c), .c (iC x1.tx.e), .c (iC x1.tx.n), .c (sC x1.range.lo), .c (sC x1.range.hi), .c (bC x1.ex)]), (37, .one (.so [(0, 0)] 0 0 (((s1.w0_0_0).map eLock).length))), (38, .one (.so [] 7 0 ((s1.v7).length)))]) [0, 1, 2, 3, 4, 5] tyOK (by kernel_rfl) (by kernel_rfl) (by kernel_rfl) ?_
          refine aa_all [6] (by kernel_rfl) rfl ?_
          refine aa_cons ?_ aa_nil
          refine aone_rows (d := 39) (d' := 40) (sz := 1) (f := 67) (xs := [.tmp 33, .tmp 39]) (ts := [[.so [(0, 0)] 0 0 (((s1.w0_0_0).map eLock).length)], [.so [] 7 0 ((s1.v7).length)]]) (tl := [.so [(0, 0)] 0 0 (((s1.w0_0_0).map eLock).length), .so [] 7 0 ((s1.v7).length)]) (rows := [[lC 6 eLock s1.w0_0_0], [lC 6 eLock s1.v7]]) (cl := [lC 6 eLock s1.w0_0_0, lC 6 eLock s1.v7]) (A' := [.agg [.c (iC x1.tx.c), .c (iC x1.tx.e), .c (iC x1.tx.n), .c (sC x1.range.lo), .c (sC x1.range.hi), .c (bC x1.ex)], .one (.c (.sl 1 ([[lC 6 eLock s1.w0_0_0], [lC 6 eLock s1.v7]])))]) (st1 := mk 65 [(0, pV 0), (6, .one (.so [] 6 0 ((s1.v6).length))), (7, .one (.so [] 7 0 ((s1.v7).length))), (9, pV 9), (27, .one (.so [] 27 0 ((r2).length))), (28, iV ((((r2).length : Nat) : Int))), (29, iV s1.v29), (40, bV r3)] [(0, [.bx [lC 6 eLock s1.w0_0_0, .dead]]), (6, [lC 6 eLock s1.v6]), (7, [lC 6 eLock s1.v7]), (9, [.bx [iC x1.tx.c, iC x1.tx.e, iC x1.tx.n, sC x1.range.lo, sC x1.range.hi, bC x1.ex]]), (27, [lC 6 eLock r2])]) (j := 7) (fuel := 0) (listed1 := #[true, true, true, true, true, true, true, false]) (listed2 := #[true, true, true, true, true, true, true, true]) [0, 6, 7, 9, 27, 28, 29, 40] tyOK (k_i_isFree x1 ([s1.w0_0_0, s1.v7]) r3 er3) Try.call67 (by kernel_rfl) (by kernel_rfl) (by kernel_rfl) (.cons (lend_so (by kernel_rfl) (by simp)) (.cons (lend_so (by kernel_rfl) (by simp)) .nil)) (by kernel_rfl) (by kernel_rfl) (.cons rfl (by kernel_rfl) (.agg (.cons (.same rfl) (.cons (.same rfl) (.cons (.same rfl) (.cons (.same rfl) (.cons (.same rfl) (.cons (.same rfl) .nil))))))) (.hd .nil)) (by kernel_rfl) clean_nil (by kernel_rfl) (by kernel_rfl) (by kernel_rfl) (by kernel_rfl) (by kernel_rfl) ?_
          refine aa_done (by kernel_rfl) ?_
          show _ = _; kernel_rfl
        obtain ⟨y3, h, ky3⟩ := bndJ_e h
        refine a_joinT (ι := Xi_Locks_free_2) (fun j => mk 65 [(0, pV 0), (6, .one (.so [] 6 0 ((j.v6).length))), (7, .one (.so [] 7 0 ((j.v7).length))), (27, .one (.so [] 27 0 ((r2).length))), (28, iV ((((r2).length : Nat) : Int))), (29, iV s1.v29)] [(0, [.bx [lC 6 eLock j.w0_0_0, .dead]]), (6, [lC 6 eLock j.v6]), (7, [lC 6 eLock j.v7]), (27, [lC 6 eLock r2])]) (fun j => y3 = j) ?_ ?_
        · refine a_cond (b := r3) (by kernel_rfl) (fun h2 => ?_) (fun h2 => ?_)
          · replace h := cT h2 h
            refine a_seq ?_
            obtain ⟨c1, h⟩ := chk_e h
            refine a_mid (mk 65 [(0, pV 0), (6, .one (.so [] 6 0 ((s1.v6).length))), (7, .one (.so [] 7 0 ((s1.v7).length))), (9, pV 9), (27, .one (.so [] 27 0 ((r2).length))), (28, iV ((((r2).length : Nat) : Int))), (29, iV s1.v29)] [(0, [.bx [lC 6 eLock (s1.w0_0_0 ++ ([x1] : List Lock)), .dead]]), (6, [lC 6 eLock s1.v6]), (7, [lC 6 eLock s1.v7]), (9, [.bx [iC x1.tx.c, iC x1.tx.e, iC x1.tx.n, sC x1.range.lo, sC x1.range.hi, bC x1.ex]]), (27, [lC 6 eLock r2])]) ?_ ?_
            · refine a_drawn (n := 11) [7, 10] (by kernel_rfl) (by kernel_rfl) ?_
              refine aa_takeP (fuel := 10) (listed' := #[true, false, false, false, false, false, false, false, false, false, false]) (st' := mk 65 [(0, pV 0), (6, .one (.so [] 6 0 ((s1.v6).length))), (7, .one (.so [] 7 0 ((s1.v7).length))), (9, pV 9), (27, .one (.so [] 27 0 ((r2).length))), (28, iV ((((r2).length : Nat) : Int))), (29, iV s1.v29), (41, pV 0)] [(0, [.bx [lC 6 eLock s1.w0_0_0, .dead]]), (6, [lC 6 eLock s1.v6]), (7, [lC 6 eLock s1.v7]), (9, [.bx [iC x1.tx.c, iC x1.tx.e, iC x1.tx.n, sC x1.range.lo, sC x1.range.hi, bC x1.ex]]), (27, [lC 6 eLock r2])]) [0] [0, 6, 7, 9, 27, 28, 29, 41] tyOK (by kernel_rfl) (by kernel_rfl) (by kernel_rfl) ?_
              refine aa_takeM (fuel := 5) (listed' := #[true, true, true, true, true, true, false, false, false, false, false]) (l1 := [(0, pV 0), (6, .one (.so [] 6 0 ((s1.v6).length))), (7, .one (.so [] 7 0 ((s1.v7).length))), (9, pV 9), (27, .one (.so [] 27 0 ((r2).length))), (28, iV ((((r2).length : Nat) : Int))), (29, iV s1.v29), (41, pV 0), (45, .one (.so [(0, 0)] 0 0 (((s1.w0_0_0).map eLock).length))), (46, .agg [.c (iC x1.tx.c), .c (iC x1.tx.e), .c (iC x1.tx.n), .c (sC x1.range.lo), .c (sC x1.range.hi), .c (bC x1.ex)])]) [1, 2, 3, 4, 5] tyOK (by kernel_rfl) (by kernel_rfl) (by kernel_rfl) ?_
              refine aa_all [6] (by kernel_rfl) rfl ?_
              refine aa_cons ?_ aa_nil
              refine aone_any (listed' := #[true, true, true, true, true, true, true, false, false, false, false]) (st1 := mk 65 [(0, pV 0), (6, .one (.so [] 6 0 ((s1.v6).length))), (7, .one (.so [] 7 0 ((s1.v7).length))), (9, pV 9), (27, .one (.so [] 27 0 ((r2).length))), (28, iV ((((r2).length : Nat) : Int))), (29, iV s1.v29), (41, pV 0), (45, .one (.so [(0, 0)] 0 0 (((s1.w0_0_0).map eLock).length))), (47, .one (.so [] 47 0 1))] [(0, [.bx [lC 6 eLock s1.w0_0_0, .dead]]), (6, [lC 6 eLock s1.v6]), (7, [lC 6 eLock s1.v7]), (9, [.bx [iC x1.tx.c, iC x1.tx.e, iC x1.tx.n, sC x1.range.lo, sC x1.range.hi, bC x1.ex]]), (27, [lC 6 eLock r2]), (47, [.sl 6 ([[iC x1.tx.c, iC x1.tx.e, iC x1.tx.n, sC x1.range.lo, sC x1.range.hi, bC x1.ex]])])]) [0, 6, 7, 9, 27, 28, 29, 41, 45, 47] tyOK (by kernel_rfl) (by kernel_rfl) ?_
              refine aa_all [7] (by kernel_rfl) rfl ?_
              refine aa_cons ?_ aa_nil
              refine aone_append (listed' := #[true, true, true, true, true, true, true, true, false, false, false]) (d := 48) (n := (((s1.w0_0_0).map eLock).length)) (n' := ((s1.w0_0_0 ++ ([x1] : List Lock)).length)) (bytes := 64) (size := 6) (src := (some ([(0, 0)], 0, 0))) (rows := (s1.w0_0_0).map eLock) (tx := .one (.so [] 47 0 1)) (new := [[iC x1.tx.c, iC x1.tx.e, iC x1.tx.n, sC x1.range.lo, sC x1.range.hi, bC x1.ex]]) (rows' := (s1.w0_0_0 ++ ([x1] : List Lock)).map eLock) (st1 := mk 65 [(0, pV 0), (6, .one (.so [] 6 0 ((s1.v6).length))), (7, .one (.so [] 7 0 ((s1.v7).length))), (9, pV 9), (27, .one (.so [] 27 0 ((r2).length))), (28, iV ((((r2).length : Nat) : Int))), (29, iV s1.v29), (41, pV 0), (48, .one (.so [] 48 0 ((s1.w0_0_0 ++ ([x1] : List Lock)).length)))] [(0, [.bx [.dead, .dead]]), (6, [lC 6 eLock s1.v6]), (7, [lC 6 eLock s1.v7]), (9, [.bx [iC x1.tx.c, iC x1.tx.e, iC x1.tx.n, sC x1.range.lo, sC x1.range.hi, bC x1.ex]]), (27, [lC 6 eLock r2]), (48, [lC 6 eLock (s1.w0_0_0 ++ ([x1] : List Lock))])]) [0, 6, 7, 9, 27, 28, 29, 41, 48] tyOK (by kernel_rfl) (by kernel_rfl) (by simp) (by simpa using c1) (by kernel_rfl) (by simp [bC, eLock, eRange, eTx, frzC, iC, sC]) (by simp) (by kernel_rfl) (by kernel_rfl) (by kernel_rfl) ?_
              refine aa_takeM (fuel := 1) (listed' := #[true, true, true, true, true, true, true, true, true, true, false]) (l1 := [(0, pV 0), (6, .one (.so [] 6 0 ((s1.v6).length))), (7, .one (.so [] 7 0 ((s1.v7).length))), (9, pV 9), (27, .one (.so [] 27 0 ((r2).length))), (28, iV ((((r2).length : Nat) : Int))), (29, iV s1.v29), (48, .one (.so [] 48 0 ((s1.w0_0_0 ++ ([x1] : List Lock)).length))), (50, pV 0)]) [8, 9] tyOK (by kernel_rfl) (by kernel_rfl) (by kernel_rfl) ?_
              refine aa_all [10] (by kernel_rfl) rfl ?_
              refine aa_cons ?_ aa_nil
              refine aone_o (ob := [(((s1.w0_0_0 ++ ([x1] : List Lock)).map eLock).length, (s1.w0_0_0 ++ ([x1] : List Lock)).length)]) (listed' := #[true, true, true, true, true, true, true, true, true, true, true]) (st1 := mk 65 [(0, pV 0), (6, .one (.so [] 6 0 ((s1.v6).length))), (7, .one (.so [] 7 0 ((s1.v7).length))), (9, pV 9), (27, .one (.so [] 27 0 ((r2).length))), (28, iV ((((r2).length : Nat) : Int))), (29, iV s1.v29)] [(0, [.bx [lC 6 eLock (s1.w0_0_0 ++ ([x1] : List Lock)), .dead]]), (6, [lC 6 eLock s1.v6]), (7, [lC 6 eLock s1.v7]), (9, [.bx [iC x1.tx.c, iC x1.tx.e, iC x1.tx.n, sC x1.range.lo, sC x1.range.hi, bC x1.ex]]), (27, [lC 6 eLock r2])]) [0, 6, 7, 9, 27, 28, 29] tyOK (by kernel_rfl) ⟨by simp, trivial⟩ (by kernel_rfl) (by kernel_rfl) ?_
              refine aa_done (by kernel_rfl) ?_
              show _ = _; kernel_rfl
            refine a_ops [0, 1, 2, 3, 4] (by kernel_rfl) ?_
            refine ao_some [0, 1, 2] [3, 4] [0, 7, 27, 28, 29, 51, 53] tyOK (st1 := mk 65 [(0, pV 0), (7, .one (.so [] 7 0 ((s1.v7).length))), (27, .one (.so [] 27 0 ((r2).length))), (28, iV ((((r2).length : Nat) : Int))), (29, iV s1.v29), (51, .one (.so [] 6 0 ((s1.v6).length))), (53, .one (.so [] 53 0 1))] [(0, [.bx [lC 6 eLock (s1.w0_0_0 ++ ([x1] : List Lock)), .dead]]), (6, [lC 6 eLock s1.v6]), (7, [lC 6 eLock s1.v7]), (27, [lC 6 eLock r2]), (53, [.sl 6 ([[iC x1.tx.c, iC x1.tx.e, iC x1.tx.n, sC x1.range.lo, sC x1.range.hi, bC x1.ex]])])]) (by kernel_rfl) ?_
            obtain ⟨c2, h⟩ := chk_e h
            refine ao_append (d := 54) (n := ((s1.v6).length)) (n' := ((s1.v6 ++ ([x1] : List Lock)).length)) (bytes := 64) (size := 6) (src := (some ([], 6, 0))) (rows := (s1.v6).map eLock) (tx := .one (.so [] 53 0 1)) (new := [[iC x1.tx.c, iC x1.tx.e, iC x1.tx.n, sC x1.range.lo, sC x1.range.hi, bC x1.ex]]) (rows' := (s1.v6 ++ ([x1] : List Lock)).map eLock) (st1 := mk 65 [(0, pV 0), (7, .one (.so [] 7 0 ((s1.v7).length))), (27, .one (.so [] 27 0 ((r2).length))), (28, iV ((((r2).length : Nat) : Int))), (29, iV s1.v29), (54, .one (.so [] 54 0 ((s1.v6 ++ ([x1] : List Lock)).length)))] [(0, [.bx [lC 6 eLock (s1.w0_0_0 ++ ([x1] : List Lock)), .dead]]), (7, [lC 6 eLock s1.v7]), (27, [lC 6 eLock r2]), (54, [lC 6 eLock (s1.v6 ++ ([x1] : List Lock))])]) [0, 7, 27, 28, 29, 54] tyOK (by kernel_rfl) (by kernel_rfl) (by simp) (by simpa using c2) (by kernel_rfl) (by simp [bC, eLock, eRange, eTx, frzC, iC, sC]) (by simp) (by kernel_rfl) ?_
            refine ao_someM [4] [] tyOK (l1 := [(0, pV 0), (6, .one (.so [] 54 0 ((s1.v6 ++ ([x1] : List Lock)).length))), (7, .one (.so [] 7 0 ((s1.v7).length))), (27, .one (.so [] 27 0 ((r2).length))), (28, iV ((((r2).length : Nat) : Int))), (29, iV s1.v29)]) (by kernel_rfl) ?_
            refine ao_nil ?_
            obtain rfl := Option.some.inj h
            show ∃ _, _ ∧ Imp _ _ _
            refine ⟨_, rfl, ?_⟩
            refine imp_rename 54 6 6 [0, 6, 7, 27, 28, 29] (s1 := mk 65 [(0, pV 0), (6, .one (.so [] 6 0 ((s1.v6 ++ ([x1] : List Lock)).length))), (7, .one (.so [] 7 0 ((s1.v7).length))), (27, .one (.so [] 27 0 ((r2).length))), (28, iV ((((r2).length : Nat) : Int))), (29, iV s1.v29)] [(0, [.bx [lC 6 eLock (s1.w0_0_0 ++ ([x1] : List Lock)), .dead]]), (6, [lC 6 eLock (s1.v6 ++ ([x1] : List Lock))]), (7, [lC 6 eLock s1.v7]), (27, [lC 6 eLock r2])]) (by kernel_rfl) ?_
            exact imp_keepTo [0, 6, 7, 27, 28, 29] (by kernel_rfl) (imp_done rfl)
          · replace h := cF h2 h
            refine a_ops [0, 1, 2, 3, 4] (by kernel_rfl) ?_
            refine ao_some [0, 1, 2] [3, 4] [0, 6, 27, 28, 29, 55, 57] tyOK (st1 := mk 65 [(0, pV 0), (6, .one (.so [] 6 0 ((s1.v6).length))), (27, .one (.so [] 27 0 ((r2).length))), (28, iV ((((r2).length : Nat) : Int))), (29, iV s1.v29), (55, .one (.so [] 7 0 ((s1.v7).length))), (57, .one (.so [] 57 0 1))] [(0, [.bx [lC 6 eLock s1.w0_0_0, .dead]]), (6, [lC 6 eLock s1.v6]), (7, [lC 6 eLock s1.v7]), (27, [lC 6 eLock r2]), (57, [.sl 6 ([[iC x1.tx.c, iC x1.tx.e, iC x1.tx.n, sC x1.range.lo, sC x1.range.hi, bC x1.ex]])])]) (by kernel_rfl) ?_
            obtain ⟨c3, h⟩ := chk_e h
            refine ao_append (d := 58) (n := ((s1.v7).length)) (n' := ((s1.v7 ++ ([x1] : List Lock)).length)) (bytes := 64) (size := 6) (src := (some ([], 7, 0))) (rows := (s1.v7).map eLock) (tx := .one (.so [] 57 0 1)) (new := [[iC x1.tx.c, iC x1.tx.e, iC x1.tx.n, sC x1.range.lo, sC x1.range.hi, bC x1.ex]]) (rows' := (s1.v7 ++ ([x1] : List Lock)).map eLock) (st1 := mk 65 [(0, pV 0), (6, .one (.so [] 6 0 ((s1.v6).length))), (27, .one (.so [] 27 0 ((r2).length))), (28, iV ((((r2).length : Nat) : Int))), (29, iV s1.v29), (58, .one (.so [] 58 0 ((s1.v7 ++ ([x1] : List Lock)).length)))] [(0, [.bx [lC 6 eLock s1.w0_0_0, .dead]]), (6, [lC 6 eLock s1.v6]), (27, [lC 6 eLock r2]), (58, [lC 6 eLock (s1.v7 ++ ([x1] : List Lock))])]) [0, 6, 27, 28, 29, 58] tyOK (by kernel_rfl) (by kernel_rfl) (by simp) (by simpa using c3) (by kernel_rfl) (by simp [bC, eLock, eRange, eTx, frzC, iC, sC]) (by simp) (by kernel_rfl) ?_
            refine ao_someM [4] [] tyOK (l1 := [(0, pV 0), (6, .one (.so [] 6 0 ((s1.v6).length))), (7, .one (.so [] 58 0 ((s1.v7 ++ ([x1] : List Lock)).length))), (27, .one (.so [] 27 0 ((r2).length))), (28, iV ((((r2).length : Nat) : Int))), (29, iV s1.v29)]) (by kernel_rfl) ?_
            refine ao_nil ?_
            obtain rfl := Option.some.inj h
            show ∃ _, _ ∧ Imp _ _ _
            refine ⟨_, rfl, ?_⟩
            refine imp_rename 58 7 7 [0, 6, 7, 27, 28, 29] (s1 := mk 65 [(0, pV 0), (6, .one (.so [] 6 0 ((s1.v6).length))), (7, .one (.so [] 7 0 ((s1.v7 ++ ([x1] : List Lock)).length))), (27, .one (.so [] 27 0 ((r2).length))), (28, iV ((((r2).length : Nat) : Int))), (29, iV s1.v29)] [(0, [.bx [lC 6 eLock s1.w0_0_0, .dead]]), (6, [lC 6 eLock s1.v6]), (7, [lC 6 eLock (s1.v7 ++ ([x1] : List Lock))]), (27, [lC 6 eLock r2])]) (by kernel_rfl) ?_
            exact imp_keepTo [0, 6, 7, 27, 28, 29] (by kernel_rfl) (imp_done rfl)
        intro j1 hj1
        replace h := ky3 _ hj1
        refine a_run [0, 6, 7, 27, 28, 29] tyOK (st1 := mk 65 [(0, pV 0), (6, .one (.so [] 6 0 ((j1.v6).length))), (7, .one (.so [] 7 0 ((j1.v7).length))), (27, .one (.so [] 27 0 ((r2).length))), (28, iV ((((r2).length : Nat) : Int))), (29, iV (IntKind.wrap .i64 (s1.v29 + 1)))] [(0, [.bx [lC 6 eLock j1.w0_0_0, .dead]]), (6, [lC 6 eLock j1.v6]), (7, [lC 6 eLock j1.v7]), (27, [lC 6 eLock r2])]) (by kernel_rfl) ?_
        obtain rfl := Option.some.inj h
        show ∃ _, _ ∧ Imp _ _ _
        refine ⟨_, rfl, ?_⟩
        exact imp_keepTo [0, 6, 7, 27, 28, 29] (by kernel_rfl) (imp_done rfl)
      · replace h := cF h1 h
        refine a_exit ?_
        obtain rfl := Option.some.inj h
        obtain rfl := zy2 _ rfl
        show ∃ _, _ ∧ Imp _ _ _
        refine ⟨_, rfl, ?_⟩
        exact imp_keepTo [0, 6, 7] (by kernel_rfl) (imp_done rfl)
    intro j2 hj2
    replace h := ky1 _ hj2
    refine a_seq ?_
    refine a_ops [0, 1, 2, 3, 4] (by kernel_rfl) ?_
    refine ao_some [0, 1, 2, 3] [4] [0, 6, 61, 63] tyOK (st1 := mk 65 [(0, pV 0), (6, .one (.so [] 6 0 ((j2.v6).length))), (61, .one (.so [] 7 0 ((j2.v7).length))), (63, .one (.pl [(0, 0)] 0 1))] [(0, [.bx [lC 6 eLock j2.w0_0_0, .dead]]), (6, [lC 6 eLock j2.v6]), (7, [lC 6 eLock j2.v7])]) (by kernel_rfl) ?_
    refine ao_o (ob := [(((j2.v7).map eLock).length, (j2.v7).length)]) (st1 := mk 65 [(0, pV 0), (6, .one (.so [] 6 0 ((j2.v6).length)))] [(0, [.bx [lC 6 eLock j2.w0_0_0, lC 6 eLock j2.v7]]), (6, [lC 6 eLock j2.v6])]) [0, 6] tyOK (by kernel_rfl) ⟨by simp, trivial⟩ ?_
    refine ao_nil ?_
    refine a_seq ?_
    refine a_runM tyOK (l1 := [(0, pV 0), (4, .one (.so [] 6 0 ((j2.v6).length)))]) (by kernel_rfl) ?_
    refine a_ret ?_
    obtain rfl := Option.some.inj h
    exact end_g (ob := [(((j2.v6).map eLock).length, (j2.v6).length)]) (outs' := [.bx [lC 6 eLock j2.w0_0_0, lC 6 eLock j2.v7]]) (res' := .one (.so [] 0 0 ((j2.v6).length))) (row' := [lC 6 eLock j2.v6]) (by kernel_rfl) ⟨by simp, trivial⟩ (by first | rfl | simp) (by first | rfl | simp) (by first | rfl | simp)


end Go.Proofs.Ytagoajkiccgmjaa
namespace Go.Proofs.Ytagoajkiccgmjaa
open Go.Mv Go.RowKit
noncomputable def i_LockFree (p0 : Locks) (p1 : Tx) : Option (Locks × (List Lock)) :=
 bnd (i_LocksOk p0) fun r1 =>
 bif (!r1) then
 (some (((⟨[], []⟩ : Locks), [])))
 else
 (bnd (i_copyLocks p0) fun r2 =>
 bnd (i_Locks_free r2 p1) fun r3 =>
 some ((r3.1, r3.2)))
set_option maxHeartbeats 4000000 in
/-- impl.LockFree -/
theorem k_i_LockFree (p0 : Locks) (p1 : Tx) (v : Locks × (List Lock)) (h : i_LockFree p0 p1 = some v) : CallOK Try.prog 20 [.agg [.c (lC 6 eLock p0.held), .c (lC 6 eLock p0.wait)], .agg [.c (iC p1.c), .c (iC p1.e), .c (iC p1.n)]] (.tup [.agg [.so [] 0 0 ((v.1.held).length), .so [] 0 1 ((v.1.wait).length)], .one (.so [] 0 2 ((v.2).length))]) [lC 6 eLock v.1.held, lC 6 eLock v.1.wait, lC 6 eLock v.2] :=
  callOK tyOK Try.func20 rfl fun w S hS => by
    unfold i_LockFree at h
    refine a_seq ?_
    refine a_run [2, 3, 4] tyOK (st1 := mk 18 [(2, pV 2), (3, pV 3), (4, pV 4)] [(2, [.bx [.fz (lC 6 eLock p0.held), .fz (lC 6 eLock p0.wait)]]), (3, [.bx [iC p1.c, iC p1.e, iC p1.n]]), (4, [.bx [.sl 6 ([]), .sl 6 ([])]])]) (by kernel_rfl) ?_
    refine a_seq ?_
    refine a_seq ?_
    refine a_ops [0, 1, 2] (by kernel_rfl) ?_
    refine ao_someM [0] [1, 2] tyOK (l1 := [(2, pV 2), (3, pV 3), (4, pV 4), (8, .agg [.c (lC 6 eLock p0.held), .c (lC 6 eLock p0.wait)])]) (by kernel_rfl) ?_
    obtain ⟨r1, er1, h⟩ := bnd_e h
    refine ao_enterM (f := 21) (d := 9) (A := [.agg [.c (lC 6 eLock p0.held), .c (lC 6 eLock p0.wait)]]) (l1 := [(2, pV 2), (3, pV 3), (4, pV 4), (9, bV r1)]) (k_i_LocksOk p0 r1 er1) Try.call21 (by kernel_rfl) (by kernel_rfl) (by kernel_rfl) ?_
    refine ao_someM [2] [] tyOK (l1 := [(2, pV 2), (3, pV 3), (4, pV 4), (10, bV (!r1))]) (by kernel_rfl) ?_
    refine ao_nil ?_
    refine a_cond (b := !r1) (by kernel_rfl) (fun h1 => ?_) (fun h1 => ?_)
    · replace h := cT h1 h
      refine a_seq ?_
      refine a_run [4, 5] tyOK (st1 := mk 18 [(4, pV 4), (5, .one (.c (.v (.slice none 0 0))))] [(4, [.bx [.sl 6 ([]), .sl 6 ([])]])]) (by kernel_rfl) ?_
      refine a_Imp (imp_nilOwn 5 5 6 [4, 5] (s1 := mk 18 [(4, pV 4), (5, .one (.so [] 5 0 0))] [(4, [.bx [.sl 6 ([]), .sl 6 ([])]]), (5, [.sl 6 ([])])]) (by kernel_rfl) (imp_done rfl)) ?_
      refine a_ret ?_
      obtain rfl := Option.some.inj h
      exact end_own (ob := [(0, 0), (0, 0), (0, 0)]) (res' := .tup [.agg [.so [] 0 0 0, .so [] 0 1 0], .one (.so [] 0 2 0)]) (row' := [.sl 6 ([]), .sl 6 ([]), .sl 6 ([])]) (by kernel_rfl) ⟨by simp, by simp, by simp, trivial⟩ (by first | rfl | simp) (by first | rfl | simp)
    · replace h := cF h1 h
      refine a_skip ?_
      refine a_seq ?_
      refine a_ops [0, 1, 2, 3] (by kernel_rfl) ?_
      refine ao_some [0] [1, 2, 3] [3, 4, 12] tyOK (st1 := mk 18 [(3, pV 3), (4, pV 4), (12, .agg [.c (lC 6 eLock p0.held), .c (lC 6 eLock p0.wait)])] [(3, [.bx [iC p1.c, iC p1.e, iC p1.n]]), (4, [.bx [.sl 6 ([]), .sl 6 ([])]])]) (by kernel_rfl) ?_
      obtain ⟨r2, er2, h⟩ := bnd_e h
      refine ao_enter (f := 59) (d := 13) (A := [.agg [.c (lC 6 eLock p0.held), .c (lC 6 eLock p0.wait)]]) (st1 := mk 18 [(3, pV 3), (4, pV 4), (13, .agg [.so [] 13 0 ((r2.held).length), .so [] 13 1 ((r2.wait).length)])] [(3, [.bx [iC p1.c, iC p1.e, iC p1.n]]), (4, [.bx [.sl 6 ([]), .sl 6 ([])]]), (13, [lC 6 eLock r2.held, lC 6 eLock r2.wait])]) [3, 4, 13] (k_i_copyLocks p0 r2 er2) Try.call59 (by kernel_rfl) (by kernel_rfl) (by kernel_rfl) ?_
      refine ao_some [2] [3] [3, 4, 6, 13] tyOK (st1 := mk 18 [(3, pV 3), (4, pV 4), (6, pV 6), (13, .agg [.so [] 13 0 ((r2.held).length), .so [] 13 1 ((r2.wait).length)])] [(3, [.bx [iC p1.c, iC p1.e, iC p1.n]]), (4, [.bx [.sl 6 ([]), .sl 6 ([])]]), (6, [.bx [.sl 6 ([]), .sl 6 ([])]]), (13, [lC 6 eLock r2.held, lC 6 eLock r2.wait])]) (by kernel_rfl) ?_
      refine ao_o (ob := [(((r2.held).map eLock).length, (r2.held).length), (((r2.wait).map eLock).length, (r2.wait).length)]) (st1 := mk 18 [(3, pV 3), (4, pV 4), (6, pV 6)] [(3, [.bx [iC p1.c, iC p1.e, iC p1.n]]), (4, [.bx [.sl 6 ([]), .sl 6 ([])]]), (6, [.bx [lC 6 eLock r2.held, lC 6 eLock r2.wait]])]) [3, 4, 6] tyOK (by kernel_rfl) ⟨by simp, by simp, trivial⟩ ?_
      refine ao_nil ?_
      refine a_seq ?_
      refine a_ops [0, 1, 2] (by kernel_rfl) ?_
      refine ao_some [0] [1, 2] [4, 6, 14] tyOK (st1 := mk 18 [(4, pV 4), (6, pV 6), (14, .agg [.c (iC p1.c), .c (iC p1.e), .c (iC p1.n)])] [(4, [.bx [.sl 6 ([]), .sl 6 ([])]]), (6, [.bx [lC 6 eLock r2.held, lC 6 eLock r2.wait]])]) (by kernel_rfl) ?_
      obtain ⟨r3, er3, h⟩ := bnd_e h
      refine ao_g2 (g := 66) (d := 15) (A := [pV 6, .agg [.c (iC p1.c), .c (iC p1.e), .c (iC p1.n)]]) (A' := [pV 0, .agg [.c (iC p1.c), .c (iC p1.e), .c (iC p1.n)]]) (cs := [.bx [lC 6 eLock r2.held, lC 6 eLock r2.wait]]) (outs := [.bx [lC 6 eLock r3.1.held, lC 6 eLock r3.1.wait]]) (ps := [[(6, 0)]]) (st1 := mk 18 [(4, pV 4), (6, pV 6), (15, .one (.so [] 15 0 ((r3.2).length)))] [(4, [.bx [.sl 6 ([]), .sl 6 ([])]]), (6, [.bx [lC 6 eLock r3.1.held, lC 6 eLock r3.1.wait]]), (15, [lC 6 eLock r3.2])]) [4, 6, 15] (k_i_Locks_free r2 p1 r3 er3) Try.call66 (by kernel_rfl) (.cons (.one (.pl 0 rfl rfl)) (.cons (.agg (.cons (.same rfl) (.cons (.same rfl) (.cons (.same rfl) .nil)))) .nil)) (handedN_of (szs := [0]) (by kernel_rfl)) (by kernel_rfl) (.bx .nil) (wholeF0 _ _) (by kernel_rfl) (by kernel_rfl) ?_
      refine ao_someM [2] [] tyOK (l1 := [(4, pV 4), (6, pV 6), (7, .one (.so [] 15 0 ((r3.2).length)))]) (by kernel_rfl) ?_
      refine ao_nil ?_
      refine a_seq ?_
      refine a_ops [0, 1, 2, 3] (by kernel_rfl) ?_
      refine ao_someM [0, 1] [2, 3] tyOK (l1 := [(4, pV 4), (16, .agg [.so [(6, 0)] 0 0 (((r3.1.held).map eLock).length), .so [(6, 0)] 0 1 (((r3.1.wait).map eLock).length)]), (17, .one (.so [] 15 0 ((r3.2).length)))]) (by kernel_rfl) ?_
      refine ao_o (ob := [(((r3.1.held).map eLock).length, ((r3.1.held).map eLock).length), (((r3.1.wait).map eLock).length, ((r3.1.wait).map eLock).length)]) (st1 := mk 18 [(4, pV 4), (17, .one (.so [] 15 0 ((r3.2).length)))] [(4, [.bx [lC 6 eLock r3.1.held, lC 6 eLock r3.1.wait]]), (15, [lC 6 eLock r3.2])]) [4, 17] tyOK (by kernel_rfl) ⟨by simp, by simp, trivial⟩ ?_
      refine ao_someM [3] [] tyOK (l1 := [(4, pV 4), (5, .one (.so [] 15 0 ((r3.2).length)))]) (by kernel_rfl) ?_
      refine ao_nil ?_
      refine a_ret ?_
      obtain rfl := Option.some.inj h
      exact end_own (ob := [(((r3.1.held).map eLock).length, ((r3.1.held).map eLock).length), (((r3.1.wait).map eLock).length, ((r3.1.wait).map eLock).length), (((r3.2).map eLock).length, (r3.2).length)]) (res' := .tup [.agg [.so [] 0 0 (((r3.1.held).map eLock).length), .so [] 0 1 (((r3.1.wait).map eLock).length)], .one (.so [] 0 2 ((r3.2).length))]) (row' := [lC 6 eLock r3.1.held, lC 6 eLock r3.1.wait, lC 6 eLock r3.2]) (by kernel_rfl) ⟨by simp, by simp, by simp, trivial⟩ (by first | rfl | simp) (by first | rfl | simp)

noncomputable def i_RangeIn (p0 : Range) (p1 : Range) : Bool :=
 bif (i_RangeOk p0) then (bif (i_RangeOk p1) then (bif (!Op.bytesLess p0.lo.toList p1.lo.toList) then (bif ((p1.hi.toList == ((⟨#[]⟩ : ByteArray)).toList)) then true else (bif (!(p0.hi.toList == ((⟨#[]⟩ : ByteArray)).toList)) then ((Op.bytesLess p0.hi.toList p1.hi.toList || p0.hi.toList == p1.hi.toList)) else false)) else false) else false) else false
set_option maxHeartbeats 4000000 in
/-- impl.RangeIn -/
theorem k_i_RangeIn (p0 : Range) (p1 : Range) (v : Bool) (h : i_RangeIn p0 p1 = v) : CallOK Try.prog 112 [.agg [.c (sC p0.lo), .c (sC p0.hi)], .agg [.c (sC p1.lo), .c (sC p1.hi)]] (bV v) [] :=
  callOK tyOK Try.func112 rfl fun w S hS => by
    unfold i_RangeIn at h
    refine a_seq ?_
    refine a_run [2, 3] tyOK (st1 := mk 35 [(2, pV 2), (3, pV 3)] [(2, [.bx [sC p0.lo, sC p0.hi]]), (3, [.bx [sC p1.lo, sC p1.hi]])]) (by kernel_rfl) ?_
    refine a_seq ?_
    refine a_mid (mk 35 [(4, bV (bif (i_RangeOk p0) then (bif (i_RangeOk p1) then (bif (!Op.bytesLess p0.lo.toList p1.lo.toList) then (bif ((p1.hi.toList == ((⟨#[]⟩ : ByteArray)).toList)) then true else (bif (!(p0.hi.toList == ((⟨#[]⟩ : ByteArray)).toList)) then ((Op.bytesLess p0.hi.toList p1.hi.toList || p0.hi.toList == p1.hi.toList)) else false)) else false) else false) else false))] []) ?_ ?_
    · refine a_ops [0, 1, 2, 3, 4, 5, 6, 7, 8, 9, 10, 11, 12, 13, 14, 15, 16, 17, 18, 19, 20, 21, 22, 23, 24, 25, 26, 27, 28, 29, 30] (by kernel_rfl) ?_
      refine ao_someM [0] [1, 2, 3, 4, 5, 6, 7, 8, 9, 10, 11, 12, 13, 14, 15, 16, 17, 18, 19, 20, 21, 22, 23, 24, 25, 26, 27, 28, 29, 30] tyOK (l1 := [(2, pV 2), (3, pV 3), (5, .agg [.c (sC p0.lo), .c (sC p0.hi)])]) (by kernel_rfl) ?_
      refine ao_enterM (f := 102) (d := 6) (A := [.agg [.c (sC p0.lo), .c (sC p0.hi)]]) (l1 := [(2, pV 2), (3, pV 3), (6, bV (i_RangeOk p0))]) (k_i_RangeOk p0 _ rfl) Try.call102 (by kernel_rfl) (by kernel_rfl) (by kernel_rfl) ?_
      refine ao_someM [2] [3, 4, 5, 6, 7, 8, 9, 10, 11, 12, 13, 14, 15, 16, 17, 18, 19, 20, 21, 22, 23, 24, 25, 26, 27, 28, 29, 30] tyOK (l1 := [(2, pV 2), (3, pV 3), (7, bV (i_RangeOk p0))]) (by kernel_rfl) ?_
      rcases Bool.eq_false_or_eq_true (i_RangeOk p0) with h1 | h1
      · refine ao_saysM (k := 7) (t := bV (i_RangeOk p0)) (t' := bV true) (l1 := [(2, pV 2), (3, pV 3), (7, bV true)]) (by kernel_rfl) (by rw [h1]) (by kernel_rfl) ?_
        refine ao_someM [3] [4, 5, 6, 7, 8, 9, 10, 11, 12, 13, 14, 15, 16, 17, 18, 19, 20, 21, 22, 23, 24, 25, 26, 27, 28, 29, 30] tyOK (l1 := [(2, pV 2), (3, pV 3), (7, bV true), (8, .agg [.c (sC p1.lo), .c (sC p1.hi)])]) (by kernel_rfl) ?_
        refine ao_enterM (f := 102) (d := 9) (A := [.agg [.c (sC p1.lo), .c (sC p1.hi)]]) (l1 := [(2, pV 2), (3, pV 3), (7, bV true), (9, bV (i_RangeOk p1))]) (k_i_RangeOk p1 _ rfl) Try.call102 (by kernel_rfl) (by kernel_rfl) (by kernel_rfl) ?_
        refine ao_someM [5, 6] [7, 8, 9, 10, 11, 12, 13, 14, 15, 16, 17, 18, 19, 20, 21, 22, 23, 24, 25, 26, 27, 28, 29, 30] tyOK (l1 := [(2, pV 2), (3, pV 3), (11, bV (i_RangeOk p1))]) (by kernel_rfl) ?_
        rcases Bool.eq_false_or_eq_true (i_RangeOk p1) with h2 | h2
        · refine ao_saysM (k := 11) (t := bV (i_RangeOk p1)) (t' := bV true) (l1 := [(2, pV 2), (3, pV 3), (11, bV true)]) (by kernel_rfl) (by rw [h2]) (by kernel_rfl) ?_
          refine ao_someM [7, 8, 9, 10, 11, 12, 13] [14, 15, 16, 17, 18, 19, 20, 21, 22, 23, 24, 25, 26, 27, 28, 29, 30] tyOK (l1 := [(2, pV 2), (3, pV 3), (18, bV (!Op.bytesLess p0.lo.toList p1.lo.toList))]) (by kernel_rfl) ?_
          rcases Bool.eq_false_or_eq_true (!Op.bytesLess p0.lo.toList p1.lo.toList) with h3 | h3
          · refine ao_saysM (k := 18) (t := bV (!Op.bytesLess p0.lo.toList p1.lo.toList)) (t' := bV true) (l1 := [(2, pV 2), (3, pV 3), (18, bV true)]) (by kernel_rfl) (by rw [h3]) (by kernel_rfl) ?_
            refine ao_someM [14, 15, 16, 17] [18, 19, 20, 21, 22, 23, 24, 25, 26, 27, 28, 29, 30] tyOK (l1 := [(2, pV 2), (3, pV 3), (18, bV true), (22, bV ((p1.hi.toList == ((⟨#[]⟩ : ByteArray)).toList)))]) (by kernel_rfl) ?_
            rcases Bool.eq_false_or_eq_true ((p1.hi.toList == ((⟨#[]⟩ : ByteArray)).toList)) with h4 | h4
            · refine ao_saysM (k := 22) (t := bV ((p1.hi.toList == ((⟨#[]⟩ : ByteArray)).toList))) (t' := bV true) (l1 := [(2, pV 2), (3, pV 3), (18, bV true), (22, bV true)]) (by kernel_rfl) (by rw [h4]) (by kernel_rfl) ?_
              refine ao_some [18, 19, 20, 21, 22, 23, 24, 25, 26, 27, 28, 29, 30] [] [4] tyOK (st1 := mk 35 [(4, bV true)] []) (by kernel_rfl) ?_
              refine ao_nil ?_
              show mk 35 [(4, bV true)] [] = mk 35 [(4, bV (bif (i_RangeOk p0) then (bif (i_RangeOk p1) then (bif (!Op.bytesLess p0.lo.toList p1.lo.toList) then (bif ((p1.hi.toList == ((⟨#[]⟩ : ByteArray)).toList)) then true else (bif (!(p0.hi.toList == ((⟨#[]⟩ : ByteArray)).toList)) then ((Op.bytesLess p0.hi.toList p1.hi.toList || p0.hi.toList == p1.hi.toList)) else false)) else false) else false) else false))] []
              first | rfl | (simp only [h1, h2, h3, h4, cond_true, cond_false]) | (simp only [h1, h2, h3, h4, cond_true, cond_false]; rfl)
            · refine ao_saysM (k := 22) (t := bV ((p1.hi.toList == ((⟨#[]⟩ : ByteArray)).toList))) (t' := bV false) (l1 := [(2, pV 2), (3, pV 3), (18, bV true), (22, bV false)]) (by kernel_rfl) (by rw [h4]) (by kernel_rfl) ?_
              refine ao_someM [18, 19, 20, 21] [22, 23, 24, 25, 26, 27, 28, 29, 30] tyOK (l1 := [(2, pV 2), (3, pV 3), (18, bV true), (22, bV false), (26, bV (!(p0.hi.toList == ((⟨#[]⟩ : ByteArray)).toList)))]) (by kernel_rfl) ?_
              rcases Bool.eq_false_or_eq_true (!(p0.hi.toList == ((⟨#[]⟩ : ByteArray)).toList)) with h5 | h5
              · refine ao_saysM (k := 26) (t := bV (!(p0.hi.toList == ((⟨#[]⟩ : ByteArray)).toList))) (t' := bV true) (l1 := [(2, pV 2), (3, pV 3), (18, bV true), (22, bV false), (26, bV true)]) (by kernel_rfl) (by rw [h5]) (by kernel_rfl) ?_
                refine ao_some [22, 23, 24, 25, 26, 27, 28, 29, 30] [] [4] tyOK (st1 := mk 35 [(4, bV ((Op.bytesLess p0.hi.toList p1.hi.toList || p0.hi.toList == p1.hi.toList)))] []) (by kernel_rfl) ?_
                refine ao_nil ?_
                show mk 35 [(4, bV ((Op.bytesLess p0.hi.toList p1.hi.toList || p0.hi.toList == p1.hi.toList)))] [] = mk 35 [(4, bV (bif (i_RangeOk p0) then (bif (i_RangeOk p1) then (bif (!Op.bytesLess p0.lo.toList p1.lo.toList) then (bif ((p1.hi.toList == ((⟨#[]⟩ : ByteArray)).toList)) then true else (bif (!(p0.hi.toList == ((⟨#[]⟩ : ByteArray)).toList)) then ((Op.bytesLess p0.hi.toList p1.hi.toList || p0.hi.toList == p1.hi.toList)) else false)) else false) else false) else false))] []
                first | rfl | (simp only [h1, h2, h3, h4, h5, cond_true, cond_false]) | (simp only [h1, h2, h3, h4, h5, cond_true, cond_false]; rfl)
              · refine ao_saysM (k := 26) (t := bV (!(p0.hi.toList == ((⟨#[]⟩ : ByteArray)).toList))) (t' := bV false) (l1 := [(2, pV 2), (3, pV 3), (18, bV true), (22, bV false), (26, bV false)]) (by kernel_rfl) (by rw [h5]) (by kernel_rfl) ?_
                refine ao_some [22, 23, 24, 25, 26, 27, 28, 29, 30] [] [4] tyOK (st1 := mk 35 [(4, bV false)] []) (by kernel_rfl) ?_
                refine ao_nil ?_
                show mk 35 [(4, bV false)] [] = mk 35 [(4, bV (bif (i_RangeOk p0) then (bif (i_RangeOk p1) then (bif (!Op.bytesLess p0.lo.toList p1.lo.toList) then (bif ((p1.hi.toList == ((⟨#[]⟩ : ByteArray)).toList)) then true else (bif (!(p0.hi.toList == ((⟨#[]⟩ : ByteArray)).toList)) then ((Op.bytesLess p0.hi.toList p1.hi.toList || p0.hi.toList == p1.hi.toList)) else false)) else false) else false) else false))] []
                first | rfl | (simp only [h1, h2, h3, h4, h5, cond_true, cond_false]) | (simp only [h1, h2, h3, h4, h5, cond_true, cond_false]; rfl)
          · refine ao_saysM (k := 18) (t := bV (!Op.bytesLess p0.lo.toList p1.lo.toList)) (t' := bV false) (l1 := [(2, pV 2), (3, pV 3), (18, bV false)]) (by kernel_rfl) (by rw [h3]) (by kernel_rfl) ?_
            refine ao_some [14, 15, 16, 17, 18, 19, 20, 21, 22, 23, 24, 25, 26, 27, 28, 29, 30] [] [4] tyOK (st1 := mk 35 [(4, bV false)] []) (by kernel_rfl) ?_
            refine ao_nil ?_
            show mk 35 [(4, bV false)] [] = mk 35 [(4, bV (bif (i_RangeOk p0) then (bif (i_RangeOk p1) then (bif (!Op.bytesLess p0.lo.toList p1.lo.toList) then (bif ((p1.hi.toList == ((⟨#[]⟩ : ByteArray)).toList)) then true else (bif (!(p0.hi.toList == ((⟨#[]⟩ : ByteArray)).toList)) then ((Op.bytesLess p0.hi.toList p1.hi.toList || p0.hi.toList == p1.hi.toList)) else false)) else false) else false) else false))] []
            first | rfl | (simp only [h1, h2, h3, cond_true, cond_false]) | (simp only [h1, h2, h3, cond_true, cond_false]; rfl)
        · refine ao_saysM (k := 11) (t := bV (i_RangeOk p1)) (t' := bV false) (l1 := [(2, pV 2), (3, pV 3), (11, bV false)]) (by kernel_rfl) (by rw [h2]) (by kernel_rfl) ?_
          refine ao_some [7, 8, 9, 10, 11, 12, 13, 14, 15, 16, 17, 18, 19, 20, 21, 22, 23, 24, 25, 26, 27, 28, 29, 30] [] [4] tyOK (st1 := mk 35 [(4, bV false)] []) (by kernel_rfl) ?_
          refine ao_nil ?_
          show mk 35 [(4, bV false)] [] = mk 35 [(4, bV (bif (i_RangeOk p0) then (bif (i_RangeOk p1) then (bif (!Op.bytesLess p0.lo.toList p1.lo.toList) then (bif ((p1.hi.toList == ((⟨#[]⟩ : ByteArray)).toList)) then true else (bif (!(p0.hi.toList == ((⟨#[]⟩ : ByteArray)).toList)) then ((Op.bytesLess p0.hi.toList p1.hi.toList || p0.hi.toList == p1.hi.toList)) else false)) else false) else false) else false))] []
          first | rfl | (simp only [h1, h2, cond_true, cond_false]) | (simp only [h1, h2, cond_true, cond_false]; rfl)
      · refine ao_saysM (k := 7) (t := bV (i_RangeOk p0)) (t' := bV false) (l1 := [(2, pV 2), (3, pV 3), (7, bV false)]) (by kernel_rfl) (by rw [h1]) (by kernel_rfl) ?_
        refine ao_some [3, 4, 5, 6, 7, 8, 9, 10, 11, 12, 13, 14, 15, 16, 17, 18, 19, 20, 21, 22, 23, 24, 25, 26, 27, 28, 29, 30] [] [4] tyOK (st1 := mk 35 [(4, bV false)] []) (by kernel_rfl) ?_
        refine ao_nil ?_
        show mk 35 [(4, bV false)] [] = mk 35 [(4, bV (bif (i_RangeOk p0) then (bif (i_RangeOk p1) then (bif (!Op.bytesLess p0.lo.toList p1.lo.toList) then (bif ((p1.hi.toList == ((⟨#[]⟩ : ByteArray)).toList)) then true else (bif (!(p0.hi.toList == ((⟨#[]⟩ : ByteArray)).toList)) then ((Op.bytesLess p0.hi.toList p1.hi.toList || p0.hi.toList == p1.hi.toList)) else false)) else false) else false) else false))] []
        first | rfl | (simp only [h1, cond_true, cond_false]) | (simp only [h1, cond_true, cond_false]; rfl)
    refine a_ret ?_
    obtain rfl := h
    exact end_eq (res' := bV (bif (i_RangeOk p0) then (bif (i_RangeOk p1) then (bif (!Op.bytesLess p0.lo.toList p1.lo.toList) then (bif ((p1.hi.toList == ((⟨#[]⟩ : ByteArray)).toList)) then true else (bif (!(p0.hi.toList == ((⟨#[]⟩ : ByteArray)).toList)) then ((Op.bytesLess p0.hi.toList p1.hi.toList || p0.hi.toList == p1.hi.toList)) else false)) else false) else false) else false)) (by kernel_rfl) (by first | rfl | simp)

noncomputable def i_Locks_has_c1 (p0 : Lock) (q0 : Tx) (q1 : Range) (q2 : Bool) : Bool :=
 bif (((p0.tx.c == q0.c) && ((p0.tx.e == q0.e) && ((p0.tx.n == q0.n) && true)))) then (bif (i_RangeIn q1 p0.range) then (bif p0.ex then true else (!q2)) else false) else false
set_option maxHeartbeats 4000000 in
/-- (*impl.Locks).has$1 -/
theorem k_i_Locks_has_c1 (p0 : Lock) (q0 : Tx) (q1 : Range) (q2 : Bool) (v : Bool) (h : i_Locks_has_c1 p0 q0 q1 q2 = v) : CallOK Try.prog 111 [.agg [.c (iC p0.tx.c), .c (iC p0.tx.e), .c (iC p0.tx.n), .c (sC p0.range.lo), .c (sC p0.range.hi), .c (bC p0.ex)], .one (.c (.bx [iC q0.c, iC q0.e, iC q0.n])), .one (.c (.bx [sC q1.lo, sC q1.hi])), .one (.c (.bx [bC q2]))] (bV v) [] :=
  callOK tyOK Try.func111 rfl fun w S hS => by
    unfold i_Locks_has_c1 at h
    refine a_seq ?_
    refine a_run [1, 2, 3, 4] tyOK (st1 := mk 24 [(1, .one (.c (.bx [iC q0.c, iC q0.e, iC q0.n]))), (2, .one (.c (.bx [sC q1.lo, sC q1.hi]))), (3, .one (.c (.bx [bC q2]))), (4, pV 4)] [(4, [.bx [iC p0.tx.c, iC p0.tx.e, iC p0.tx.n, sC p0.range.lo, sC p0.range.hi, bC p0.ex]])]) (by kernel_rfl) ?_
    refine a_seq ?_
    refine a_mid (mk 24 [(5, bV (bif (((p0.tx.c == q0.c) && ((p0.tx.e == q0.e) && ((p0.tx.n == q0.n) && true)))) then (bif (i_RangeIn q1 p0.range) then (bif p0.ex then true else (!q2)) else false) else false))] []) ?_ ?_
    · refine a_ops [0, 1, 2, 3, 4, 5, 6, 7, 8, 9, 10, 11, 12, 13, 14, 15, 16, 17, 18] (by kernel_rfl) ?_
      refine ao_someM [0, 1, 2, 3, 4] [5, 6, 7, 8, 9, 10, 11, 12, 13, 14, 15, 16, 17, 18] tyOK (l1 := [(2, .one (.c (.bx [sC q1.lo, sC q1.hi]))), (3, .one (.c (.bx [bC q2]))), (4, pV 4), (10, bV (((p0.tx.c == q0.c) && ((p0.tx.e == q0.e) && ((p0.tx.n == q0.n) && true)))))]) (by kernel_rfl) ?_
      rcases Bool.eq_false_or_eq_true (((p0.tx.c == q0.c) && ((p0.tx.e == q0.e) && ((p0.tx.n == q0.n) && true)))) with h1 | h1
      · refine ao_saysM (k := 10) (t := bV (((p0.tx.c == q0.c) && ((p0.tx.e == q0.e) && ((p0.tx.n == q0.n) && true))))) (t' := bV true) (l1 := [(2, .one (.c (.bx [sC q1.lo, sC q1.hi]))), (3, .one (.c (.bx [bC q2]))), (4, pV 4), (10, bV true)]) (by kernel_rfl) (by rw [h1]) (by kernel_rfl) ?_
        refine ao_someM [5, 6, 7] [8, 9, 10, 11, 12, 13, 14, 15, 16, 17, 18] tyOK (l1 := [(3, .one (.c (.bx [bC q2]))), (4, pV 4), (10, bV true), (11, .agg [.c (sC q1.lo), .c (sC q1.hi)]), (13, .agg [.c (sC p0.range.lo), .c (sC p0.range.hi)])]) (by kernel_rfl) ?_
        refine ao_enterM (f := 112) (d := 14) (A := [.agg [.c (sC q1.lo), .c (sC q1.hi)], .agg [.c (sC p0.range.lo), .c (sC p0.range.hi)]]) (l1 := [(3, .one (.c (.bx [bC q2]))), (4, pV 4), (10, bV true), (14, bV (i_RangeIn q1 p0.range))]) (k_i_RangeIn q1 p0.range _ rfl) Try.call112 (by kernel_rfl) (by kernel_rfl) (by kernel_rfl) ?_
        refine ao_someM [9, 10] [11, 12, 13, 14, 15, 16, 17, 18] tyOK (l1 := [(3, .one (.c (.bx [bC q2]))), (4, pV 4), (16, bV (i_RangeIn q1 p0.range))]) (by kernel_rfl) ?_
        rcases Bool.eq_false_or_eq_true (i_RangeIn q1 p0.range) with h2 | h2
        · refine ao_saysM (k := 16) (t := bV (i_RangeIn q1 p0.range)) (t' := bV true) (l1 := [(3, .one (.c (.bx [bC q2]))), (4, pV 4), (16, bV true)]) (by kernel_rfl) (by rw [h2]) (by kernel_rfl) ?_
          refine ao_some [11, 12, 13] [14, 15, 16, 17, 18] [3, 16, 19] tyOK (st1 := mk 24 [(3, .one (.c (.bx [bC q2]))), (16, bV true), (19, bV p0.ex)] []) (by kernel_rfl) ?_
          rcases Bool.eq_false_or_eq_true (p0.ex) with h3 | h3
          · refine ao_saysM (k := 19) (t := bV p0.ex) (t' := bV true) (l1 := [(3, .one (.c (.bx [bC q2]))), (16, bV true), (19, bV true)]) (by kernel_rfl) (by rw [h3]) (by kernel_rfl) ?_
            refine ao_someM [14, 15, 16, 17, 18] [] tyOK (l1 := [(5, bV true)]) (by kernel_rfl) ?_
            refine ao_nil ?_
            show mk 24 [(5, bV true)] [] = mk 24 [(5, bV (bif (((p0.tx.c == q0.c) && ((p0.tx.e == q0.e) && ((p0.tx.n == q0.n) && true)))) then (bif (i_RangeIn q1 p0.range) then (bif p0.ex then true else (!q2)) else false) else false))] []
            first | rfl | (simp only [h1, h2, h3, cond_true, cond_false]) | (simp only [h1, h2, h3, cond_true, cond_false]; rfl)
          · refine ao_saysM (k := 19) (t := bV p0.ex) (t' := bV false) (l1 := [(3, .one (.c (.bx [bC q2]))), (16, bV true), (19, bV false)]) (by kernel_rfl) (by rw [h3]) (by kernel_rfl) ?_
            refine ao_someM [14, 15, 16, 17, 18] [] tyOK (l1 := [(5, bV (!q2))]) (by kernel_rfl) ?_
            refine ao_nil ?_
            show mk 24 [(5, bV (!q2))] [] = mk 24 [(5, bV (bif (((p0.tx.c == q0.c) && ((p0.tx.e == q0.e) && ((p0.tx.n == q0.n) && true)))) then (bif (i_RangeIn q1 p0.range) then (bif p0.ex then true else (!q2)) else false) else false))] []
            first | rfl | (simp only [h1, h2, h3, cond_true, cond_false]) | (simp only [h1, h2, h3, cond_true, cond_false]; rfl)
        · refine ao_saysM (k := 16) (t := bV (i_RangeIn q1 p0.range)) (t' := bV false) (l1 := [(3, .one (.c (.bx [bC q2]))), (4, pV 4), (16, bV false)]) (by kernel_rfl) (by rw [h2]) (by kernel_rfl) ?_
          refine ao_some [11, 12, 13, 14, 15, 16, 17, 18] [] [5] tyOK (st1 := mk 24 [(5, bV false)] []) (by kernel_rfl) ?_
          refine ao_nil ?_
          show mk 24 [(5, bV false)] [] = mk 24 [(5, bV (bif (((p0.tx.c == q0.c) && ((p0.tx.e == q0.e) && ((p0.tx.n == q0.n) && true)))) then (bif (i_RangeIn q1 p0.range) then (bif p0.ex then true else (!q2)) else false) else false))] []
          first | rfl | (simp only [h1, h2, cond_true, cond_false]) | (simp only [h1, h2, cond_true, cond_false]; rfl)
      · refine ao_saysM (k := 10) (t := bV (((p0.tx.c == q0.c) && ((p0.tx.e == q0.e) && ((p0.tx.n == q0.n) && true))))) (t' := bV false) (l1 := [(2, .one (.c (.bx [sC q1.lo, sC q1.hi]))), (3, .one (.c (.bx [bC q2]))), (4, pV 4), (10, bV false)]) (by kernel_rfl) (by rw [h1]) (by kernel_rfl) ?_
        refine ao_some [5, 6, 7, 8, 9, 10, 11, 12, 13, 14, 15, 16, 17, 18] [] [5] tyOK (st1 := mk 24 [(5, bV false)] []) (by kernel_rfl) ?_
        refine ao_nil ?_
        show mk 24 [(5, bV false)] [] = mk 24 [(5, bV (bif (((p0.tx.c == q0.c) && ((p0.tx.e == q0.e) && ((p0.tx.n == q0.n) && true)))) then (bif (i_RangeIn q1 p0.range) then (bif p0.ex then true else (!q2)) else false) else false))] []
        first | rfl | (simp only [h1, cond_true, cond_false]) | (simp only [h1, cond_true, cond_false]; rfl)
    refine a_ret ?_
    obtain rfl := h
    exact end_eq (res' := bV (bif (((p0.tx.c == q0.c) && ((p0.tx.e == q0.e) && ((p0.tx.n == q0.n) && true)))) then (bif (i_RangeIn q1 p0.range) then (bif p0.ex then true else (!q2)) else false) else false)) (by kernel_rfl) (by first | rfl | simp)


end Go.Proofs.Ytagoajkiccgmjaa
namespace Go.Proofs.Ytagoajkiccgmjaa
open Go.Mv Go.RowKit
noncomputable def Bsl_IndexFunc_Lock_i_Locks_has_c1_1 (p0 : (List Lock)) (q0 : Tx) (q1 : Range) (q2 : Bool) (s1 : Int) : Option (Int ⊕ (Unit ⊕ (Int))) :=
 bif (decide (s1 < (((((p0).map eLock).length : Nat) : Int)))) then
 (bnd (getI p0 s1) fun x1 =>
 bif (i_Locks_has_c1 x1 q0 q1 q2) then
 (some (.inr (.inr s1)))
 else
 (some (.inl (IntKind.wrap .i64 (s1 + 1)))))
 else
 (some (.inr (.inl (()))))

noncomputable def sl_IndexFunc_Lock_i_Locks_has_c1 (p0 : (List Lock)) (q0 : Tx) (q1 : Range) (q2 : Bool) : Option (Int) :=
 bndS (loopT (Bsl_IndexFunc_Lock_i_Locks_has_c1_1 p0 q0 q1 q2) 0) fun j1 =>
 some (-1)
set_option maxHeartbeats 4000000 in
/-- slices.IndexFunc[[]impl.Lock,impl.Lock] -/
theorem k_sl_IndexFunc_Lock_i_Locks_has_c1 (p0 : (List Lock)) (q0 : Tx) (q1 : Range) (q2 : Bool) (v : Int) (h : sl_IndexFunc_Lock_i_Locks_has_c1 p0 q0 q1 q2 = some v) : CallOK Try.prog 131 [lV 6 eLock p0, .one (.c (.fn 111 [.bx [iC q0.c, iC q0.e, iC q0.n], .bx [sC q1.lo, sC q1.hi], .bx [bC q2]]))] (iV v) [] :=
  callOK tyOK Try.func131 rfl fun w S hS => by
    unfold sl_IndexFunc_Lock_i_Locks_has_c1 at h
    refine a_seq ?_
    refine a_run [0, 1] tyOK (st1 := mk 19 [(0, lV 6 eLock p0), (1, .one (.c (.fn 111 [.bx [iC q0.c, iC q0.e, iC q0.n], .bx [sC q1.lo, sC q1.hi], .bx [bC q2]])))] []) (by kernel_rfl) ?_
    refine a_seq ?_
    refine a_seq ?_
    refine a_runM tyOK (l1 := [(0, lV 6 eLock p0), (1, .one (.c (.fn 111 [.bx [iC q0.c, iC q0.e, iC q0.n], .bx [sC q1.lo, sC q1.hi], .bx [bC q2]]))), (7, iV (((((p0).map eLock).length : Nat) : Int))), (8, iV 0)]) (by kernel_rfl) ?_
    obtain ⟨y1, h, ky1, zy1⟩ := bndS_e h
    refine a_joinT (ι := Unit) (fun j => mk 19 [] []) (fun j => y1 = .inl j) ?_ ?_
    · refine a_block ?_
      refine a_loopT (Bsl_IndexFunc_Lock_i_Locks_has_c1_1 p0 q0 q1 q2) (fun s1 => mk 19 [(0, lV 6 eLock p0), (1, .one (.c (.fn 111 [.bx [iC q0.c, iC q0.e, iC q0.n], .bx [sC q1.lo, sC q1.hi], .bx [bC q2]]))), (7, iV (((((p0).map eLock).length : Nat) : Int))), (8, iV s1)] []) 0 h ?_ ?_
      · exact imp_keepTo [0, 1, 7, 8] (by kernel_rfl) (imp_done rfl)
      intro s1 y2 h zy2
      unfold Bsl_IndexFunc_Lock_i_Locks_has_c1_1 at h
      refine a_seq ?_
      refine a_run [0, 1, 7, 8, 9] tyOK (st1 := mk 19 [(0, lV 6 eLock p0), (1, .one (.c (.fn 111 [.bx [iC q0.c, iC q0.e, iC q0.n], .bx [sC q1.lo, sC q1.hi], .bx [bC q2]]))), (7, iV (((((p0).map eLock).length : Nat) : Int))), (8, iV s1), (9, bV (decide (s1 < (((((p0).map eLock).length : Nat) : Int)))))] []) (by kernel_rfl) ?_
      refine a_seq ?_
      refine a_cond (b := decide (s1 < (((((p0).map eLock).length : Nat) : Int)))) (by kernel_rfl) (fun h1 => ?_) (fun h1 => ?_)
      · replace h := cT h1 h
        refine a_skip ?_
        refine a_seq ?_
        refine a_block ?_
        refine a_seq ?_
        refine a_run [0, 1, 5, 7, 8] tyOK (st1 := mk 19 [(0, lV 6 eLock p0), (1, .one (.c (.fn 111 [.bx [iC q0.c, iC q0.e, iC q0.n], .bx [sC q1.lo, sC q1.hi], .bx [bC q2]]))), (5, iV s1), (7, iV (((((p0).map eLock).length : Nat) : Int))), (8, iV s1)] []) (by kernel_rfl) ?_
        refine a_seq ?_
        refine a_ops [0, 1, 2, 3, 4, 5] (by kernel_rfl) ?_
        refine ao_someM [0, 1, 2] [3, 4, 5] tyOK (l1 := [(0, lV 6 eLock p0), (1, .one (.c (.fn 111 [.bx [iC q0.c, iC q0.e, iC q0.n], .bx [sC q1.lo, sC q1.hi], .bx [bC q2]]))), (5, iV s1), (7, iV (((((p0).map eLock).length : Nat) : Int))), (8, iV s1), (11, .one (.c (.fn 111 [.bx [iC q0.c, iC q0.e, iC q0.n], .bx [sC q1.lo, sC q1.hi], .bx [bC q2]]))), (12, lV 6 eLock p0), (13, iV s1)]) (by kernel_rfl) ?_
        obtain ⟨x1, ex1, h⟩ := bnd_e h
        refine ao_indexM (d := 14) (size := 6) (n := s1) (rows := (p0).map eLock) (l1 := [(0, lV 6 eLock p0), (1, .one (.c (.fn 111 [.bx [iC q0.c, iC q0.e, iC q0.n], .bx [sC q1.lo, sC q1.hi], .bx [bC q2]]))), (5, iV s1), (7, iV (((((p0).map eLock).length : Nat) : Int))), (8, iV s1), (11, .one (.c (.fn 111 [.bx [iC q0.c, iC q0.e, iC q0.n], .bx [sC q1.lo, sC q1.hi], .bx [bC q2]]))), (14, .one (.fp [iC x1.tx.c, iC x1.tx.e, iC x1.tx.n, sC x1.range.lo, sC x1.range.hi, bC x1.ex] 0))]) (eLock x1) tyOK (by kernel_rfl) (getI_e ex1).1 (show ((p0).map eLock)[_]? = some _ from by rw [List.getElem?_map, (getI_e ex1).2]; rfl) (by kernel_rfl) (by kernel_rfl) ?_
        refine ao_some [4] [5] [0, 1, 5, 7, 8, 11, 15] tyOK (st1 := mk 19 [(0, lV 6 eLock p0), (1, .one (.c (.fn 111 [.bx [iC q0.c, iC q0.e, iC q0.n], .bx [sC q1.lo, sC q1.hi], .bx [bC q2]]))), (5, iV s1), (7, iV (((((p0).map eLock).length : Nat) : Int))), (8, iV s1), (11, .one (.c (.fn 111 [.bx [iC q0.c, iC q0.e, iC q0.n], .bx [sC q1.lo, sC q1.hi], .bx [bC q2]]))), (15, .agg [.c (iC x1.tx.c), .c (iC x1.tx.e), .c (iC x1.tx.n), .c (sC x1.range.lo), .c (sC x1.range.hi), .c (bC x1.ex)])] []) (by kernel_rfl) ?_
        refine ao_callv (f := 111) (d := 16) (A := [.agg [.c (iC x1.tx.c), .c (iC x1.tx.e), .c (iC x1.tx.n), .c (sC x1.range.lo), .c (sC x1.range.hi), .c (bC x1.ex)], .one (.c (.bx [iC q0.c, iC q0.e, iC q0.n])), .one (.c (.bx [sC q1.lo, sC q1.hi])), .one (.c (.bx [bC q2]))]) (A' := [.agg [.c (iC x1.tx.c), .c (iC x1.tx.e), .c (iC x1.tx.n), .c (sC x1.range.lo), .c (sC x1.range.hi), .c (bC x1.ex)], .one (.c (.bx [iC q0.c, iC q0.e, iC q0.n])), .one (.c (.bx [sC q1.lo, sC q1.hi])), .one (.c (.bx [bC q2]))]) (st1 := mk 19 [(0, lV 6 eLock p0), (1, .one (.c (.fn 111 [.bx [iC q0.c, iC q0.e, iC q0.n], .bx [sC q1.lo, sC q1.hi], .bx [bC q2]]))), (5, iV s1), (7, iV (((((p0).map eLock).length : Nat) : Int))), (8, iV s1), (16, bV (i_Locks_has_c1 x1 q0 q1 q2))] []) [0, 1, 5, 7, 8, 16] (k_i_Locks_has_c1 x1 q0 q1 q2 _ rfl) Try.call111 (by kernel_rfl) (.cons (.agg (.cons (.same rfl) (.cons (.same rfl) (.cons (.same rfl) (.cons (.same rfl) (.cons (.same rfl) (.cons (.same rfl) .nil))))))) (.cons (.one (.same rfl)) (.cons (.one (.same rfl)) (.cons (.one (.same rfl)) .nil)))) rfl (clean_nil) (by kernel_rfl) (by kernel_rfl) ?_
        refine ao_nil ?_
        refine a_cond (b := i_Locks_has_c1 x1 q0 q1 q2) (by kernel_rfl) (fun h2 => ?_) (fun h2 => ?_)
        · replace h := cT h2 h
          refine a_seq ?_
          refine a_runM tyOK (l1 := [(4, iV s1)]) (by kernel_rfl) ?_
          refine a_ret ?_
          obtain rfl := Option.some.inj h
          obtain rfl := zy2 _ rfl
          obtain rfl := zy1 _ rfl
          exact end_eq (res' := iV s1) (by kernel_rfl) (by first | rfl | simp)
        · replace h := cF h2 h
          refine a_skip ?_
          refine a_runM tyOK (l1 := [(0, lV 6 eLock p0), (1, .one (.c (.fn 111 [.bx [iC q0.c, iC q0.e, iC q0.n], .bx [sC q1.lo, sC q1.hi], .bx [bC q2]]))), (7, iV (((((p0).map eLock).length : Nat) : Int))), (8, iV (IntKind.wrap .i64 (s1 + 1)))]) (by kernel_rfl) ?_
          obtain rfl := Option.some.inj h
          show ∃ _, _ ∧ Imp _ _ _
          refine ⟨_, rfl, ?_⟩
          exact imp_keepTo [0, 1, 7, 8] (by kernel_rfl) (imp_done rfl)
      · replace h := cF h1 h
        refine a_exit ?_
        obtain rfl := Option.some.inj h
        obtain rfl := zy2 _ rfl
        show ∃ _, _ ∧ Imp _ _ _
        refine ⟨_, rfl, ?_⟩
        exact imp_keepTo [] (by kernel_rfl) (imp_done rfl)
    intro j1 hj1
    replace h := ky1 _ hj1
    refine a_seq ?_
    refine a_run [4] tyOK (st1 := mk 19 [(4, iV (-1))] []) (by kernel_rfl) ?_
    refine a_ret ?_
    obtain rfl := Option.some.inj h
    exact end_eq (res' := iV (-1)) (by kernel_rfl) (by first | rfl | simp)
noncomputable def sl_ContainsFunc_Lock_i_Locks_has_c1 (p0 : (List Lock)) (q0 : Tx) (q1 : Range) (q2 : Bool) : Option (Bool) :=
 bnd (sl_IndexFunc_Lock_i_Locks_has_c1 p0 q0 q1 q2) fun r1 =>
 some (decide (r1 ≥ 0))
set_option maxHeartbeats 4000000 in
/-- slices.ContainsFunc[[]impl.Lock,impl.Lock] -/
theorem k_sl_ContainsFunc_Lock_i_Locks_has_c1 (p0 : (List Lock)) (q0 : Tx) (q1 : Range) (q2 : Bool) (v : Bool) (h : sl_ContainsFunc_Lock_i_Locks_has_c1 p0 q0 q1 q2 = some v) : CallOK Try.prog 107 [lV 6 eLock p0, .one (.c (.fn 111 [.bx [iC q0.c, iC q0.e, iC q0.n], .bx [sC q1.lo, sC q1.hi], .bx [bC q2]]))] (bV v) [] :=
  callOK tyOK Try.func107 rfl fun w S hS => by
    unfold sl_ContainsFunc_Lock_i_Locks_has_c1 at h
    refine a_seq ?_
    refine a_run [0, 1] tyOK (st1 := mk 9 [(0, lV 6 eLock p0), (1, .one (.c (.fn 111 [.bx [iC q0.c, iC q0.e, iC q0.n], .bx [sC q1.lo, sC q1.hi], .bx [bC q2]])))] []) (by kernel_rfl) ?_
    refine a_seq ?_
    refine a_ops [0, 1, 2, 3, 4] (by kernel_rfl) ?_
    refine ao_someM [0, 1] [2, 3, 4] tyOK (l1 := [(5, lV 6 eLock p0), (6, .one (.c (.fn 111 [.bx [iC q0.c, iC q0.e, iC q0.n], .bx [sC q1.lo, sC q1.hi], .bx [bC q2]])))]) (by kernel_rfl) ?_
    obtain ⟨r1, er1, h⟩ := bnd_e h
    refine ao_enterM (f := 131) (d := 7) (A := [lV 6 eLock p0, .one (.c (.fn 111 [.bx [iC q0.c, iC q0.e, iC q0.n], .bx [sC q1.lo, sC q1.hi], .bx [bC q2]]))]) (l1 := [(7, iV r1)]) (k_sl_IndexFunc_Lock_i_Locks_has_c1 p0 q0 q1 q2 r1 er1) Try.call131 (by kernel_rfl) (by kernel_rfl) (by kernel_rfl) ?_
    refine ao_someM [3, 4] [] tyOK (l1 := [(4, bV (decide (r1 ≥ 0)))]) (by kernel_rfl) ?_
    refine ao_nil ?_
    refine a_ret ?_
    obtain rfl := Option.some.inj h
    exact end_eq (res' := bV (decide (r1 ≥ 0))) (by kernel_rfl) (by first | rfl | simp)
noncomputable def i_Locks_has (p0 : Locks) (p1 : Tx) (p2 : Range) (p3 : Bool) : Option (Bool) :=
 bnd (sl_ContainsFunc_Lock_i_Locks_has_c1 p0.held p1 p2 p3) fun r1 =>
 some r1
set_option maxHeartbeats 4000000 in
/-- (*impl.Locks).has -/
theorem k_i_Locks_has (p0 : Locks) (p1 : Tx) (p2 : Range) (p3 : Bool) (v : Bool) (h : i_Locks_has p0 p1 p2 p3 = some v) : CallOK Try.prog 69 [.one (.c (.bx [lC 6 eLock p0.held, lC 6 eLock p0.wait])), .agg [.c (iC p1.c), .c (iC p1.e), .c (iC p1.n)], .agg [.c (sC p2.lo), .c (sC p2.hi)], bV p3] (bV v) [] :=
  callOK tyOK Try.func69 rfl fun w S hS => by
    unfold i_Locks_has at h
    refine a_seq ?_
    refine a_run [0, 5, 6, 7] tyOK (st1 := mk 15 [(0, .one (.c (.bx [lC 6 eLock p0.held, lC 6 eLock p0.wait]))), (5, pV 5), (6, pV 6), (7, pV 7)] [(5, [.bx [iC p1.c, iC p1.e, iC p1.n]]), (6, [.bx [sC p2.lo, sC p2.hi]]), (7, [.bx [bC p3]])]) (by kernel_rfl) ?_
    refine a_seq ?_
    refine a_ops [0, 1, 2, 3, 4, 5, 6] (by kernel_rfl) ?_
    refine ao_someM [0, 1, 2, 3] [4, 5, 6] tyOK (l1 := [(5, pV 5), (6, pV 6), (7, pV 7), (12, lV 6 eLock p0.held)]) (by kernel_rfl) ?_
    refine ao_freeze (fun _ _ h => h) [] 5 0 [5, 6, 7, 12] (st' := mk 15 [(5, .one (.c (.bx [iC p1.c, iC p1.e, iC p1.n]))), (6, pV 6), (7, pV 7), (12, lV 6 eLock p0.held)] [(6, [.bx [sC p2.lo, sC p2.hi]]), (7, [.bx [bC p3]])]) (by kernel_rfl) ?_
    refine ao_freeze (fun _ _ h => h) [] 6 0 [5, 6, 7, 12] (st' := mk 15 [(5, .one (.c (.bx [iC p1.c, iC p1.e, iC p1.n]))), (6, .one (.c (.bx [sC p2.lo, sC p2.hi]))), (7, pV 7), (12, lV 6 eLock p0.held)] [(7, [.bx [bC p3]])]) (by kernel_rfl) ?_
    refine ao_freeze (fun _ _ h => h) [] 7 0 [5, 6, 7, 12] (st' := mk 15 [(5, .one (.c (.bx [iC p1.c, iC p1.e, iC p1.n]))), (6, .one (.c (.bx [sC p2.lo, sC p2.hi]))), (7, .one (.c (.bx [bC p3]))), (12, lV 6 eLock p0.held)] []) (by kernel_rfl) ?_
    refine ao_fn (d := 13) (f := 111) (cs := [.bx [iC p1.c, iC p1.e, iC p1.n], .bx [sC p2.lo, sC p2.hi], .bx [bC p3]]) (st1 := mk 15 [(12, lV 6 eLock p0.held), (13, .one (.c (.fn 111 [.bx [iC p1.c, iC p1.e, iC p1.n], .bx [sC p2.lo, sC p2.hi], .bx [bC p3]])))] []) [12, 13] (by kernel_rfl) (by kernel_rfl) ?_
    obtain ⟨r1, er1, h⟩ := bnd_e h
    refine ao_enterM (f := 107) (d := 14) (A := [lV 6 eLock p0.held, .one (.c (.fn 111 [.bx [iC p1.c, iC p1.e, iC p1.n], .bx [sC p2.lo, sC p2.hi], .bx [bC p3]]))]) (l1 := [(14, bV r1)]) (k_sl_ContainsFunc_Lock_i_Locks_has_c1 p0.held p1 p2 p3 r1 er1) Try.call107 (by kernel_rfl) (by kernel_rfl) (by kernel_rfl) ?_
    refine ao_someM [6] [] tyOK (l1 := [(8, bV r1)]) (by kernel_rfl) ?_
    refine ao_nil ?_
    refine a_ret ?_
    obtain rfl := Option.some.inj h
    exact end_eq (res' := bV r1) (by kernel_rfl) (by first | rfl | simp)

noncomputable def i_LockHas (p0 : Locks) (p1 : Tx) (p2 : Range) (p3 : Bool) : Option (Bool) :=
 bnd (bnd (i_LocksOk p0) fun r1 =>
 bif r1 then
 (bnd (i_Locks_has p0 p1 p2 p3) fun r2 =>
 some r2)
 else
 (some false)) fun j1 =>
 some j1
set_option maxHeartbeats 4000000 in
/-- impl.LockHas -/
theorem k_i_LockHas (p0 : Locks) (p1 : Tx) (p2 : Range) (p3 : Bool) (v : Bool) (h : i_LockHas p0 p1 p2 p3 = some v) : CallOK Try.prog 22 [.agg [.c (lC 6 eLock p0.held), .c (lC 6 eLock p0.wait)], .agg [.c (iC p1.c), .c (iC p1.e), .c (iC p1.n)], .agg [.c (sC p2.lo), .c (sC p2.hi)], bV p3] (bV v) [] :=
  callOK tyOK Try.func22 rfl fun w S hS => by
    unfold i_LockHas at h
    refine a_seq ?_
    refine a_run [3, 4, 5, 6] tyOK (st1 := mk 17 [(3, bV p3), (4, pV 4), (5, pV 5), (6, pV 6)] [(4, [.bx [.fz (lC 6 eLock p0.held), .fz (lC 6 eLock p0.wait)]]), (5, [.bx [iC p1.c, iC p1.e, iC p1.n]]), (6, [.bx [sC p2.lo, sC p2.hi]])]) (by kernel_rfl) ?_
    refine a_seq ?_
    obtain ⟨y1, h, ky1⟩ := bndJ_e h
    refine a_joinT (ι := Bool) (fun j => mk 17 [(8, bV j)] []) (fun j => y1 = j) ?_ ?_
    · refine a_ops [0, 1, 2, 3, 4, 5, 6, 7, 8] (by kernel_rfl) ?_
      refine ao_some [0] [1, 2, 3, 4, 5, 6, 7, 8] [3, 4, 5, 6, 9] tyOK (st1 := mk 17 [(3, bV p3), (4, pV 4), (5, pV 5), (6, pV 6), (9, .agg [.c (lC 6 eLock p0.held), .c (lC 6 eLock p0.wait)])] [(4, [.bx [.fz (lC 6 eLock p0.held), .fz (lC 6 eLock p0.wait)]]), (5, [.bx [iC p1.c, iC p1.e, iC p1.n]]), (6, [.bx [sC p2.lo, sC p2.hi]])]) (by kernel_rfl) ?_
      obtain ⟨r1, er1, h⟩ := bnd_e h
      refine ao_enterM (f := 21) (d := 10) (A := [.agg [.c (lC 6 eLock p0.held), .c (lC 6 eLock p0.wait)]]) (l1 := [(3, bV p3), (4, pV 4), (5, pV 5), (6, pV 6), (10, bV r1)]) (k_i_LocksOk p0 r1 er1) Try.call21 (by kernel_rfl) (by kernel_rfl) (by kernel_rfl) ?_
      refine ao_someM [2] [3, 4, 5, 6, 7, 8] tyOK (l1 := [(3, bV p3), (4, pV 4), (5, pV 5), (6, pV 6), (11, bV r1)]) (by kernel_rfl) ?_
      rcases Bool.eq_false_or_eq_true (r1) with h1 | h1
      · replace h := cT h1 h
        refine ao_saysM (k := 11) (t := bV r1) (t' := bV true) (l1 := [(3, bV p3), (4, pV 4), (5, pV 5), (6, pV 6), (11, bV true)]) (by kernel_rfl) (by rw [h1]) (by kernel_rfl) ?_
        refine ao_some [3, 4, 5] [6, 7, 8] [4, 11, 12, 13, 14] tyOK (st1 := mk 17 [(4, pV 4), (11, bV true), (12, .agg [.c (iC p1.c), .c (iC p1.e), .c (iC p1.n)]), (13, .agg [.c (sC p2.lo), .c (sC p2.hi)]), (14, bV p3)] [(4, [.bx [.fz (lC 6 eLock p0.held), .fz (lC 6 eLock p0.wait)]])]) (by kernel_rfl) ?_
        obtain ⟨r2, er2, h⟩ := bnd_e h
        refine ao_lend (f := 69) (d := 15) (A := [pV 4, .agg [.c (iC p1.c), .c (iC p1.e), .c (iC p1.n)], .agg [.c (sC p2.lo), .c (sC p2.hi)], bV p3]) (A' := [.one (.c (.bx [lC 6 eLock p0.held, lC 6 eLock p0.wait])), .agg [.c (iC p1.c), .c (iC p1.e), .c (iC p1.n)], .agg [.c (sC p2.lo), .c (sC p2.hi)], bV p3]) (st1 := mk 17 [(11, bV true), (15, bV r2)] []) [11, 15] (k_i_Locks_has p0 p1 p2 p3 r2 er2) Try.call69 (by kernel_rfl) (.cons (.one (.imp (lend_bx [] 4 0 rfl (by kernel_rfl)) (.bx (.cons (.fz .same) (.cons (.fz .same) .nil))))) (.cons (.agg (.cons (.same rfl) (.cons (.same rfl) (.cons (.same rfl) .nil)))) (.cons (.agg (.cons (.same rfl) (.cons (.same rfl) .nil))) (.cons (.one (.same rfl)) .nil)))) (by kernel_rfl) (clean_nil) (by kernel_rfl) (by kernel_rfl) ?_
        refine ao_someM [7, 8] [] tyOK (l1 := [(8, bV r2)]) (by kernel_rfl) ?_
        refine ao_nil ?_
        obtain rfl := Option.some.inj h
        show ∃ _, _ ∧ Imp _ _ _
        refine ⟨_, rfl, ?_⟩
        exact imp_keepTo [8] (by kernel_rfl) (imp_done rfl)
      · replace h := cF h1 h
        refine ao_saysM (k := 11) (t := bV r1) (t' := bV false) (l1 := [(3, bV p3), (4, pV 4), (5, pV 5), (6, pV 6), (11, bV false)]) (by kernel_rfl) (by rw [h1]) (by kernel_rfl) ?_
        refine ao_some [3, 4, 5, 6, 7, 8] [] [8] tyOK (st1 := mk 17 [(8, bV false)] []) (by kernel_rfl) ?_
        refine ao_nil ?_
        obtain rfl := Option.some.inj h
        show ∃ _, _ ∧ Imp _ _ _
        refine ⟨_, rfl, ?_⟩
        exact imp_keepTo [8] (by kernel_rfl) (imp_done rfl)
    intro j1 hj1
    replace h := ky1 _ hj1
    refine a_ret ?_
    obtain rfl := Option.some.inj h
    exact end_eq (res' := bV j1) (by kernel_rfl) (by first | rfl | simp)

noncomputable def s_RangeIn (p0 : Range) (p1 : Range) : Bool :=
 bif (bif (!(s_RangeOk p0)) then true else (bif (!(s_RangeOk p1)) then true else (Op.bytesLess p0.lo.toList p1.lo.toList))) then
 (false)
 else
 (bif ((p1.hi.toList == ((⟨#[]⟩ : ByteArray)).toList)) then true else (bif (!(p0.hi.toList == ((⟨#[]⟩ : ByteArray)).toList)) then ((Op.bytesLess p0.hi.toList p1.hi.toList || p0.hi.toList == p1.hi.toList)) else false))
set_option maxHeartbeats 4000000 in
/-- spec.RangeIn -/
theorem k_s_RangeIn (p0 : Range) (p1 : Range) (v : Bool) (h : s_RangeIn p0 p1 = v) : CallOK Try.prog 70 [.agg [.c (sC p0.lo), .c (sC p0.hi)], .agg [.c (sC p1.lo), .c (sC p1.hi)]] (bV v) [] :=
  callOK tyOK Try.func70 rfl fun w S hS => by
    unfold s_RangeIn at h
    refine a_seq ?_
    refine a_run [2, 3] tyOK (st1 := mk 35 [(2, pV 2), (3, pV 3)] [(2, [.bx [sC p0.lo, sC p0.hi]]), (3, [.bx [sC p1.lo, sC p1.hi]])]) (by kernel_rfl) ?_
    refine a_seq ?_
    refine a_seq ?_
    refine a_mid (mk 35 [(2, pV 2), (3, pV 3), (19, bV (bif (!(s_RangeOk p0)) then true else (bif (!(s_RangeOk p1)) then true else (Op.bytesLess p0.lo.toList p1.lo.toList))))] [(2, [.bx [sC p0.lo, sC p0.hi]]), (3, [.bx [sC p1.lo, sC p1.hi]])]) ?_ ?_
    · refine a_ops [0, 1, 2, 3, 4, 5, 6, 7, 8, 9, 10, 11, 12, 13, 14] (by kernel_rfl) ?_
      refine ao_someM [0] [1, 2, 3, 4, 5, 6, 7, 8, 9, 10, 11, 12, 13, 14] tyOK (l1 := [(2, pV 2), (3, pV 3), (5, .agg [.c (sC p0.lo), .c (sC p0.hi)])]) (by kernel_rfl) ?_
      refine ao_enterM (f := 86) (d := 6) (A := [.agg [.c (sC p0.lo), .c (sC p0.hi)]]) (l1 := [(2, pV 2), (3, pV 3), (6, bV (s_RangeOk p0))]) (k_s_RangeOk p0 _ rfl) Try.call86 (by kernel_rfl) (by kernel_rfl) (by kernel_rfl) ?_
      refine ao_someM [2, 3] [4, 5, 6, 7, 8, 9, 10, 11, 12, 13, 14] tyOK (l1 := [(2, pV 2), (3, pV 3), (8, bV (!(s_RangeOk p0)))]) (by kernel_rfl) ?_
      rcases Bool.eq_false_or_eq_true (!(s_RangeOk p0)) with h1 | h1
      · refine ao_saysM (k := 8) (t := bV (!(s_RangeOk p0))) (t' := bV true) (l1 := [(2, pV 2), (3, pV 3), (8, bV true)]) (by kernel_rfl) (by rw [h1]) (by kernel_rfl) ?_
        refine ao_someM [4, 5, 6, 7, 8, 9, 10, 11, 12, 13, 14] [] tyOK (l1 := [(2, pV 2), (3, pV 3), (19, bV true)]) (by kernel_rfl) ?_
        refine ao_nil ?_
        show mk 35 [(2, pV 2), (3, pV 3), (19, bV true)] [(2, [.bx [sC p0.lo, sC p0.hi]]), (3, [.bx [sC p1.lo, sC p1.hi]])] = mk 35 [(2, pV 2), (3, pV 3), (19, bV (bif (!(s_RangeOk p0)) then true else (bif (!(s_RangeOk p1)) then true else (Op.bytesLess p0.lo.toList p1.lo.toList))))] [(2, [.bx [sC p0.lo, sC p0.hi]]), (3, [.bx [sC p1.lo, sC p1.hi]])]
        first | rfl | (simp only [h1, cond_true, cond_false]) | (simp only [h1, cond_true, cond_false]; rfl)
      · refine ao_saysM (k := 8) (t := bV (!(s_RangeOk p0))) (t' := bV false) (l1 := [(2, pV 2), (3, pV 3), (8, bV false)]) (by kernel_rfl) (by rw [h1]) (by kernel_rfl) ?_
        refine ao_someM [4] [5, 6, 7, 8, 9, 10, 11, 12, 13, 14] tyOK (l1 := [(2, pV 2), (3, pV 3), (8, bV false), (9, .agg [.c (sC p1.lo), .c (sC p1.hi)])]) (by kernel_rfl) ?_
        refine ao_enterM (f := 86) (d := 10) (A := [.agg [.c (sC p1.lo), .c (sC p1.hi)]]) (l1 := [(2, pV 2), (3, pV 3), (8, bV false), (10, bV (s_RangeOk p1))]) (k_s_RangeOk p1 _ rfl) Try.call86 (by kernel_rfl) (by kernel_rfl) (by kernel_rfl) ?_
        refine ao_someM [6, 7, 8] [9, 10, 11, 12, 13, 14] tyOK (l1 := [(2, pV 2), (3, pV 3), (13, bV (!(s_RangeOk p1)))]) (by kernel_rfl) ?_
        rcases Bool.eq_false_or_eq_true (!(s_RangeOk p1)) with h2 | h2
        · refine ao_saysM (k := 13) (t := bV (!(s_RangeOk p1))) (t' := bV true) (l1 := [(2, pV 2), (3, pV 3), (13, bV true)]) (by kernel_rfl) (by rw [h2]) (by kernel_rfl) ?_
          refine ao_someM [9, 10, 11, 12, 13, 14] [] tyOK (l1 := [(2, pV 2), (3, pV 3), (19, bV true)]) (by kernel_rfl) ?_
          refine ao_nil ?_
          show mk 35 [(2, pV 2), (3, pV 3), (19, bV true)] [(2, [.bx [sC p0.lo, sC p0.hi]]), (3, [.bx [sC p1.lo, sC p1.hi]])] = mk 35 [(2, pV 2), (3, pV 3), (19, bV (bif (!(s_RangeOk p0)) then true else (bif (!(s_RangeOk p1)) then true else (Op.bytesLess p0.lo.toList p1.lo.toList))))] [(2, [.bx [sC p0.lo, sC p0.hi]]), (3, [.bx [sC p1.lo, sC p1.hi]])]
          first | rfl | (simp only [h1, h2, cond_true, cond_false]) | (simp only [h1, h2, cond_true, cond_false]; rfl)
        · refine ao_saysM (k := 13) (t := bV (!(s_RangeOk p1))) (t' := bV false) (l1 := [(2, pV 2), (3, pV 3), (13, bV false)]) (by kernel_rfl) (by rw [h2]) (by kernel_rfl) ?_
          refine ao_someM [9, 10, 11, 12, 13, 14] [] tyOK (l1 := [(2, pV 2), (3, pV 3), (19, bV (Op.bytesLess p0.lo.toList p1.lo.toList))]) (by kernel_rfl) ?_
          refine ao_nil ?_
          show mk 35 [(2, pV 2), (3, pV 3), (19, bV (Op.bytesLess p0.lo.toList p1.lo.toList))] [(2, [.bx [sC p0.lo, sC p0.hi]]), (3, [.bx [sC p1.lo, sC p1.hi]])] = mk 35 [(2, pV 2), (3, pV 3), (19, bV (bif (!(s_RangeOk p0)) then true else (bif (!(s_RangeOk p1)) then true else (Op.bytesLess p0.lo.toList p1.lo.toList))))] [(2, [.bx [sC p0.lo, sC p0.hi]]), (3, [.bx [sC p1.lo, sC p1.hi]])]
          first | rfl | (simp only [h1, h2, cond_true, cond_false]) | (simp only [h1, h2, cond_true, cond_false]; rfl)
    refine a_cond (b := bif (!(s_RangeOk p0)) then true else (bif (!(s_RangeOk p1)) then true else (Op.bytesLess p0.lo.toList p1.lo.toList))) (by kernel_rfl) (fun h1 => ?_) (fun h1 => ?_)
    · replace h := cT h1 h
      refine a_seq ?_
      refine a_run [4] tyOK (st1 := mk 35 [(4, bV false)] []) (by kernel_rfl) ?_
      refine a_ret ?_
      obtain rfl := h
      exact end_eq (res' := bV false) (by kernel_rfl) (by first | rfl | simp)
    · replace h := cF h1 h
      refine a_skip ?_
      refine a_seq ?_
      refine a_mid (mk 35 [(4, bV (bif ((p1.hi.toList == ((⟨#[]⟩ : ByteArray)).toList)) then true else (bif (!(p0.hi.toList == ((⟨#[]⟩ : ByteArray)).toList)) then ((Op.bytesLess p0.hi.toList p1.hi.toList || p0.hi.toList == p1.hi.toList)) else false)))] []) ?_ ?_
      · refine a_ops [0, 1, 2, 3, 4, 5, 6, 7, 8, 9, 10, 11, 12, 13, 14, 15] (by kernel_rfl) ?_
        refine ao_someM [0, 1, 2, 3] [4, 5, 6, 7, 8, 9, 10, 11, 12, 13, 14, 15] tyOK (l1 := [(2, pV 2), (3, pV 3), (23, bV ((p1.hi.toList == ((⟨#[]⟩ : ByteArray)).toList)))]) (by kernel_rfl) ?_
        rcases Bool.eq_false_or_eq_true ((p1.hi.toList == ((⟨#[]⟩ : ByteArray)).toList)) with h2 | h2
        · refine ao_saysM (k := 23) (t := bV ((p1.hi.toList == ((⟨#[]⟩ : ByteArray)).toList))) (t' := bV true) (l1 := [(2, pV 2), (3, pV 3), (23, bV true)]) (by kernel_rfl) (by rw [h2]) (by kernel_rfl) ?_
          refine ao_some [4, 5, 6, 7, 8, 9, 10, 11, 12, 13, 14, 15] [] [4] tyOK (st1 := mk 35 [(4, bV true)] []) (by kernel_rfl) ?_
          refine ao_nil ?_
          show mk 35 [(4, bV true)] [] = mk 35 [(4, bV (bif ((p1.hi.toList == ((⟨#[]⟩ : ByteArray)).toList)) then true else (bif (!(p0.hi.toList == ((⟨#[]⟩ : ByteArray)).toList)) then ((Op.bytesLess p0.hi.toList p1.hi.toList || p0.hi.toList == p1.hi.toList)) else false)))] []
          first | rfl | (simp only [h2, cond_true, cond_false]) | (simp only [h2, cond_true, cond_false]; rfl)
        · refine ao_saysM (k := 23) (t := bV ((p1.hi.toList == ((⟨#[]⟩ : ByteArray)).toList))) (t' := bV false) (l1 := [(2, pV 2), (3, pV 3), (23, bV false)]) (by kernel_rfl) (by rw [h2]) (by kernel_rfl) ?_
          refine ao_someM [4, 5, 6, 7] [8, 9, 10, 11, 12, 13, 14, 15] tyOK (l1 := [(2, pV 2), (3, pV 3), (23, bV false), (27, bV (!(p0.hi.toList == ((⟨#[]⟩ : ByteArray)).toList)))]) (by kernel_rfl) ?_
          rcases Bool.eq_false_or_eq_true (!(p0.hi.toList == ((⟨#[]⟩ : ByteArray)).toList)) with h3 | h3
          · refine ao_saysM (k := 27) (t := bV (!(p0.hi.toList == ((⟨#[]⟩ : ByteArray)).toList))) (t' := bV true) (l1 := [(2, pV 2), (3, pV 3), (23, bV false), (27, bV true)]) (by kernel_rfl) (by rw [h3]) (by kernel_rfl) ?_
            refine ao_some [8, 9, 10, 11, 12, 13, 14, 15] [] [4] tyOK (st1 := mk 35 [(4, bV ((Op.bytesLess p0.hi.toList p1.hi.toList || p0.hi.toList == p1.hi.toList)))] []) (by kernel_rfl) ?_
            refine ao_nil ?_
            show mk 35 [(4, bV ((Op.bytesLess p0.hi.toList p1.hi.toList || p0.hi.toList == p1.hi.toList)))] [] = mk 35 [(4, bV (bif ((p1.hi.toList == ((⟨#[]⟩ : ByteArray)).toList)) then true else (bif (!(p0.hi.toList == ((⟨#[]⟩ : ByteArray)).toList)) then ((Op.bytesLess p0.hi.toList p1.hi.toList || p0.hi.toList == p1.hi.toList)) else false)))] []
            first | rfl | (simp only [h2, h3, cond_true, cond_false]) | (simp only [h2, h3, cond_true, cond_false]; rfl)
          · refine ao_saysM (k := 27) (t := bV (!(p0.hi.toList == ((⟨#[]⟩ : ByteArray)).toList))) (t' := bV false) (l1 := [(2, pV 2), (3, pV 3), (23, bV false), (27, bV false)]) (by kernel_rfl) (by rw [h3]) (by kernel_rfl) ?_
            refine ao_some [8, 9, 10, 11, 12, 13, 14, 15] [] [4] tyOK (st1 := mk 35 [(4, bV false)] []) (by kernel_rfl) ?_
            refine ao_nil ?_
            show mk 35 [(4, bV false)] [] = mk 35 [(4, bV (bif ((p1.hi.toList == ((⟨#[]⟩ : ByteArray)).toList)) then true else (bif (!(p0.hi.toList == ((⟨#[]⟩ : ByteArray)).toList)) then ((Op.bytesLess p0.hi.toList p1.hi.toList || p0.hi.toList == p1.hi.toList)) else false)))] []
            first | rfl | (simp only [h2, h3, cond_true, cond_false]) | (simp only [h2, h3, cond_true, cond_false]; rfl)
      refine a_ret ?_
      obtain rfl := h
      exact end_eq (res' := bV (bif ((p1.hi.toList == ((⟨#[]⟩ : ByteArray)).toList)) then true else (bif (!(p0.hi.toList == ((⟨#[]⟩ : ByteArray)).toList)) then ((Op.bytesLess p0.hi.toList p1.hi.toList || p0.hi.toList == p1.hi.toList)) else false))) (by kernel_rfl) (by first | rfl | simp)


end Go.Proofs.Ytagoajkiccgmjaa
namespace Go.Proofs.Ytagoajkiccgmjaa
open Go.Mv Go.RowKit
noncomputable def Bs_LockHas_1 (p0 : Locks) (p1 : Tx) (p2 : Range) (p3 : Bool) (s1 : Int) : Option (Int ⊕ (Unit ⊕ (Bool))) :=
 bif (decide (s1 < (((((p0.held).map eLock).length : Nat) : Int)))) then
 (bnd (getI p0.held s1) fun x1 =>
 bif (bif (((x1.tx.c == p1.c) && ((x1.tx.e == p1.e) && ((x1.tx.n == p1.n) && true)))) then (bif (s_RangeIn p2 x1.range) then (bif x1.ex then true else (!p3)) else false) else false) then
 (some (.inr (.inr true)))
 else
 (some (.inl (IntKind.wrap .i64 (s1 + 1)))))
 else
 (some (.inr (.inl (()))))

noncomputable def s_LockHas (p0 : Locks) (p1 : Tx) (p2 : Range) (p3 : Bool) : Option (Bool) :=
 bnd (s_LocksOk p0) fun r1 =>
 bif (!r1) then
 (some false)
 else
 (bndS (loopT (Bs_LockHas_1 p0 p1 p2 p3) 0) fun j1 =>
 some false)
set_option maxHeartbeats 4000000 in
/-- spec.LockHas -/
theorem k_s_LockHas (p0 : Locks) (p1 : Tx) (p2 : Range) (p3 : Bool) (v : Bool) (h : s_LockHas p0 p1 p2 p3 = some v) : CallOK Try.prog 23 [.agg [.c (lC 6 eLock p0.held), .c (lC 6 eLock p0.wait)], .agg [.c (iC p1.c), .c (iC p1.e), .c (iC p1.n)], .agg [.c (sC p2.lo), .c (sC p2.hi)], bV p3] (bV v) [] :=
  callOK tyOK Try.func23 rfl fun w S hS => by
    unfold s_LockHas at h
    refine a_seq ?_
    refine a_run [3, 4, 5, 6] tyOK (st1 := mk 40 [(3, bV p3), (4, pV 4), (5, pV 5), (6, pV 6)] [(4, [.bx [.fz (lC 6 eLock p0.held), .fz (lC 6 eLock p0.wait)]]), (5, [.bx [iC p1.c, iC p1.e, iC p1.n]]), (6, [.bx [sC p2.lo, sC p2.hi]])]) (by kernel_rfl) ?_
    refine a_seq ?_
    refine a_seq ?_
    refine a_ops [0, 1, 2] (by kernel_rfl) ?_
    refine ao_someM [0] [1, 2] tyOK (l1 := [(3, bV p3), (4, pV 4), (5, pV 5), (6, pV 6), (11, .agg [.c (lC 6 eLock p0.held), .c (lC 6 eLock p0.wait)])]) (by kernel_rfl) ?_
    obtain ⟨r1, er1, h⟩ := bnd_e h
    refine ao_enterM (f := 61) (d := 12) (A := [.agg [.c (lC 6 eLock p0.held), .c (lC 6 eLock p0.wait)]]) (l1 := [(3, bV p3), (4, pV 4), (5, pV 5), (6, pV 6), (12, bV r1)]) (k_s_LocksOk p0 r1 er1) Try.call61 (by kernel_rfl) (by kernel_rfl) (by kernel_rfl) ?_
    refine ao_someM [2] [] tyOK (l1 := [(3, bV p3), (4, pV 4), (5, pV 5), (6, pV 6), (13, bV (!r1))]) (by kernel_rfl) ?_
    refine ao_nil ?_
    refine a_cond (b := !r1) (by kernel_rfl) (fun h1 => ?_) (fun h1 => ?_)
    · replace h := cT h1 h
      refine a_seq ?_
      refine a_run [8] tyOK (st1 := mk 40 [(8, bV false)] []) (by kernel_rfl) ?_
      refine a_ret ?_
      obtain rfl := Option.some.inj h
      exact end_eq (res' := bV false) (by kernel_rfl) (by first | rfl | simp)
    · replace h := cF h1 h
      refine a_skip ?_
      refine a_seq ?_
      refine a_seq ?_
      refine a_run [3, 5, 6, 15, 16, 17] tyOK (st1 := mk 40 [(3, bV p3), (5, pV 5), (6, pV 6), (15, lV 6 eLock p0.held), (16, iV (((((p0.held).map eLock).length : Nat) : Int))), (17, iV 0)] [(5, [.bx [iC p1.c, iC p1.e, iC p1.n]]), (6, [.bx [sC p2.lo, sC p2.hi]])]) (by kernel_rfl) ?_
      obtain ⟨y1, h, ky1, zy1⟩ := bndS_e h
      refine a_joinT (ι := Unit) (fun j => mk 40 [] []) (fun j => y1 = .inl j) ?_ ?_
      · refine a_block ?_
        refine a_loopT (Bs_LockHas_1 p0 p1 p2 p3) (fun s1 => mk 40 [(3, bV p3), (5, pV 5), (6, pV 6), (15, lV 6 eLock p0.held), (16, iV (((((p0.held).map eLock).length : Nat) : Int))), (17, iV s1)] [(5, [.bx [iC p1.c, iC p1.e, iC p1.n]]), (6, [.bx [sC p2.lo, sC p2.hi]])]) 0 h ?_ ?_
        · exact imp_keepTo [3, 5, 6, 15, 16, 17] (by kernel_rfl) (imp_done rfl)
        intro s1 y2 h zy2
        unfold Bs_LockHas_1 at h
        refine a_seq ?_
        refine a_run [3, 5, 6, 15, 16, 17, 18] tyOK (st1 := mk 40 [(3, bV p3), (5, pV 5), (6, pV 6), (15, lV 6 eLock p0.held), (16, iV (((((p0.held).map eLock).length : Nat) : Int))), (17, iV s1), (18, bV (decide (s1 < (((((p0.held).map eLock).length : Nat) : Int)))))] [(5, [.bx [iC p1.c, iC p1.e, iC p1.n]]), (6, [.bx [sC p2.lo, sC p2.hi]])]) (by kernel_rfl) ?_
        refine a_seq ?_
        refine a_cond (b := decide (s1 < (((((p0.held).map eLock).length : Nat) : Int)))) (by kernel_rfl) (fun h2 => ?_) (fun h2 => ?_)
        · replace h := cT h2 h
          refine a_skip ?_
          refine a_seq ?_
          refine a_block ?_
          refine a_seq ?_
          refine a_ops [0, 1, 2, 3] (by kernel_rfl) ?_
          obtain ⟨x1, ex1, h⟩ := bnd_e h
          refine ao_index (d := 19) (size := 6) (n := s1) (rows := (p0.held).map eLock) (st1 := mk 40 [(3, bV p3), (5, pV 5), (6, pV 6), (15, lV 6 eLock p0.held), (16, iV (((((p0.held).map eLock).length : Nat) : Int))), (17, iV s1), (19, .one (.fp [iC x1.tx.c, iC x1.tx.e, iC x1.tx.n, sC x1.range.lo, sC x1.range.hi, bC x1.ex] 0))] [(5, [.bx [iC p1.c, iC p1.e, iC p1.n]]), (6, [.bx [sC p2.lo, sC p2.hi]])]) (eLock x1) [3, 5, 6, 15, 16, 17, 19] tyOK (by kernel_rfl) (getI_e ex1).1 (show ((p0.held).map eLock)[_]? = some _ from by rw [List.getElem?_map, (getI_e ex1).2]; rfl) (by kernel_rfl) (by kernel_rfl) ?_
          refine ao_some [1, 2, 3] [] [3, 5, 6, 10, 15, 16, 17] tyOK (st1 := mk 40 [(3, bV p3), (5, pV 5), (6, pV 6), (10, pV 10), (15, lV 6 eLock p0.held), (16, iV (((((p0.held).map eLock).length : Nat) : Int))), (17, iV s1)] [(5, [.bx [iC p1.c, iC p1.e, iC p1.n]]), (6, [.bx [sC p2.lo, sC p2.hi]]), (10, [.bx [iC x1.tx.c, iC x1.tx.e, iC x1.tx.n, sC x1.range.lo, sC x1.range.hi, bC x1.ex]])]) (by kernel_rfl) ?_
          refine ao_nil ?_
          refine a_seq ?_
          refine a_mid (mk 40 [(3, bV p3), (5, pV 5), (6, pV 6), (15, lV 6 eLock p0.held), (16, iV (((((p0.held).map eLock).length : Nat) : Int))), (17, iV s1), (38, bV (bif (((x1.tx.c == p1.c) && ((x1.tx.e == p1.e) && ((x1.tx.n == p1.n) && true)))) then (bif (s_RangeIn p2 x1.range) then (bif x1.ex then true else (!p3)) else false) else false))] [(5, [.bx [iC p1.c, iC p1.e, iC p1.n]]), (6, [.bx [sC p2.lo, sC p2.hi]])]) ?_ ?_
          · refine a_ops [0, 1, 2, 3, 4, 5, 6, 7, 8, 9, 10, 11, 12, 13, 14, 15, 16, 17] (by kernel_rfl) ?_
            refine ao_someM [0, 1, 2, 3, 4] [5, 6, 7, 8, 9, 10, 11, 12, 13, 14, 15, 16, 17] tyOK (l1 := [(3, bV p3), (5, pV 5), (6, pV 6), (10, pV 10), (15, lV 6 eLock p0.held), (16, iV (((((p0.held).map eLock).length : Nat) : Int))), (17, iV s1), (25, bV (((x1.tx.c == p1.c) && ((x1.tx.e == p1.e) && ((x1.tx.n == p1.n) && true)))))]) (by kernel_rfl) ?_
            rcases Bool.eq_false_or_eq_true (((x1.tx.c == p1.c) && ((x1.tx.e == p1.e) && ((x1.tx.n == p1.n) && true)))) with h3 | h3
            · refine ao_saysM (k := 25) (t := bV (((x1.tx.c == p1.c) && ((x1.tx.e == p1.e) && ((x1.tx.n == p1.n) && true))))) (t' := bV true) (l1 := [(3, bV p3), (5, pV 5), (6, pV 6), (10, pV 10), (15, lV 6 eLock p0.held), (16, iV (((((p0.held).map eLock).length : Nat) : Int))), (17, iV s1), (25, bV true)]) (by kernel_rfl) (by rw [h3]) (by kernel_rfl) ?_
              refine ao_someM [5, 6, 7] [8, 9, 10, 11, 12, 13, 14, 15, 16, 17] tyOK (l1 := [(3, bV p3), (5, pV 5), (6, pV 6), (10, pV 10), (15, lV 6 eLock p0.held), (16, iV (((((p0.held).map eLock).length : Nat) : Int))), (17, iV s1), (25, bV true), (26, .agg [.c (sC p2.lo), .c (sC p2.hi)]), (28, .agg [.c (sC x1.range.lo), .c (sC x1.range.hi)])]) (by kernel_rfl) ?_
              refine ao_enterM (f := 70) (d := 29) (A := [.agg [.c (sC p2.lo), .c (sC p2.hi)], .agg [.c (sC x1.range.lo), .c (sC x1.range.hi)]]) (l1 := [(3, bV p3), (5, pV 5), (6, pV 6), (10, pV 10), (15, lV 6 eLock p0.held), (16, iV (((((p0.held).map eLock).length : Nat) : Int))), (17, iV s1), (25, bV true), (29, bV (s_RangeIn p2 x1.range))]) (k_s_RangeIn p2 x1.range _ rfl) Try.call70 (by kernel_rfl) (by kernel_rfl) (by kernel_rfl) ?_
              refine ao_someM [9, 10] [11, 12, 13, 14, 15, 16, 17] tyOK (l1 := [(3, bV p3), (5, pV 5), (6, pV 6), (10, pV 10), (15, lV 6 eLock p0.held), (16, iV (((((p0.held).map eLock).length : Nat) : Int))), (17, iV s1), (31, bV (s_RangeIn p2 x1.range))]) (by kernel_rfl) ?_
              rcases Bool.eq_false_or_eq_true (s_RangeIn p2 x1.range) with h4 | h4
              · refine ao_saysM (k := 31) (t := bV (s_RangeIn p2 x1.range)) (t' := bV true) (l1 := [(3, bV p3), (5, pV 5), (6, pV 6), (10, pV 10), (15, lV 6 eLock p0.held), (16, iV (((((p0.held).map eLock).length : Nat) : Int))), (17, iV s1), (31, bV true)]) (by kernel_rfl) (by rw [h4]) (by kernel_rfl) ?_
                refine ao_some [11, 12, 13] [14, 15, 16, 17] [3, 5, 6, 15, 16, 17, 31, 34] tyOK (st1 := mk 40 [(3, bV p3), (5, pV 5), (6, pV 6), (15, lV 6 eLock p0.held), (16, iV (((((p0.held).map eLock).length : Nat) : Int))), (17, iV s1), (31, bV true), (34, bV x1.ex)] [(5, [.bx [iC p1.c, iC p1.e, iC p1.n]]), (6, [.bx [sC p2.lo, sC p2.hi]])]) (by kernel_rfl) ?_
                rcases Bool.eq_false_or_eq_true (x1.ex) with h5 | h5
                · refine ao_saysM (k := 34) (t := bV x1.ex) (t' := bV true) (l1 := [(3, bV p3), (5, pV 5), (6, pV 6), (15, lV 6 eLock p0.held), (16, iV (((((p0.held).map eLock).length : Nat) : Int))), (17, iV s1), (31, bV true), (34, bV true)]) (by kernel_rfl) (by rw [h5]) (by kernel_rfl) ?_
                  refine ao_someM [14, 15, 16, 17] [] tyOK (l1 := [(3, bV p3), (5, pV 5), (6, pV 6), (15, lV 6 eLock p0.held), (16, iV (((((p0.held).map eLock).length : Nat) : Int))), (17, iV s1), (38, bV true)]) (by kernel_rfl) ?_
                  refine ao_nil ?_
                  show mk 40 [(3, bV p3), (5, pV 5), (6, pV 6), (15, lV 6 eLock p0.held), (16, iV (((((p0.held).map eLock).length : Nat) : Int))), (17, iV s1), (38, bV true)] [(5, [.bx [iC p1.c, iC p1.e, iC p1.n]]), (6, [.bx [sC p2.lo, sC p2.hi]])] = mk 40 [(3, bV p3), (5, pV 5), (6, pV 6), (15, lV 6 eLock p0.held), (16, iV (((((p0.held).map eLock).length : Nat) : Int))), (17, iV s1), (38, bV (bif (((x1.tx.c == p1.c) && ((x1.tx.e == p1.e) && ((x1.tx.n == p1.n) && true)))) then (bif (s_RangeIn p2 x1.range) then (bif x1.ex then true else (!p3)) else false) else false))] [(5, [.bx [iC p1.c, iC p1.e, iC p1.n]]), (6, [.bx [sC p2.lo, sC p2.hi]])]
                  first | rfl | (simp only [h3, h4, h5, cond_true, cond_false]) | (simp only [h3, h4, h5, cond_true, cond_false]; rfl)
                · refine ao_saysM (k := 34) (t := bV x1.ex) (t' := bV false) (l1 := [(3, bV p3), (5, pV 5), (6, pV 6), (15, lV 6 eLock p0.held), (16, iV (((((p0.held).map eLock).length : Nat) : Int))), (17, iV s1), (31, bV true), (34, bV false)]) (by kernel_rfl) (by rw [h5]) (by kernel_rfl) ?_
                  refine ao_someM [14, 15, 16, 17] [] tyOK (l1 := [(3, bV p3), (5, pV 5), (6, pV 6), (15, lV 6 eLock p0.held), (16, iV (((((p0.held).map eLock).length : Nat) : Int))), (17, iV s1), (38, bV (!p3))]) (by kernel_rfl) ?_
                  refine ao_nil ?_
                  show mk 40 [(3, bV p3), (5, pV 5), (6, pV 6), (15, lV 6 eLock p0.held), (16, iV (((((p0.held).map eLock).length : Nat) : Int))), (17, iV s1), (38, bV (!p3))] [(5, [.bx [iC p1.c, iC p1.e, iC p1.n]]), (6, [.bx [sC p2.lo, sC p2.hi]])] = mk 40 [(3, bV p3), (5, pV 5), (6, pV 6), (15, lV 6 eLock p0.held), (16, iV (((((p0.held).map eLock).length : Nat) : Int))), (17, iV s1), (38, bV (bif (((x1.tx.c == p1.c) && ((x1.tx.e == p1.e) && ((x1.tx.n == p1.n) && true)))) then (bif (s_RangeIn p2 x1.range) then (bif x1.ex then true else (!p3)) else false) else false))] [(5, [.bx [iC p1.c, iC p1.e, iC p1.n]]), (6, [.bx [sC p2.lo, sC p2.hi]])]
                  first | rfl | (simp only [h3, h4, h5, cond_true, cond_false]) | (simp only [h3, h4, h5, cond_true, cond_false]; rfl)
              · refine ao_saysM (k := 31) (t := bV (s_RangeIn p2 x1.range)) (t' := bV false) (l1 := [(3, bV p3), (5, pV 5), (6, pV 6), (10, pV 10), (15, lV 6 eLock p0.held), (16, iV (((((p0.held).map eLock).length : Nat) : Int))), (17, iV s1), (31, bV false)]) (by kernel_rfl) (by rw [h4]) (by kernel_rfl) ?_
                refine ao_some [11, 12, 13, 14, 15, 16, 17] [] [3, 5, 6, 15, 16, 17, 38] tyOK (st1 := mk 40 [(3, bV p3), (5, pV 5), (6, pV 6), (15, lV 6 eLock p0.held), (16, iV (((((p0.held).map eLock).length : Nat) : Int))), (17, iV s1), (38, bV false)] [(5, [.bx [iC p1.c, iC p1.e, iC p1.n]]), (6, [.bx [sC p2.lo, sC p2.hi]])]) (by kernel_rfl) ?_
                refine ao_nil ?_
                show mk 40 [(3, bV p3), (5, pV 5), (6, pV 6), (15, lV 6 eLock p0.held), (16, iV (((((p0.held).map eLock).length : Nat) : Int))), (17, iV s1), (38, bV false)] [(5, [.bx [iC p1.c, iC p1.e, iC p1.n]]), (6, [.bx [sC p2.lo, sC p2.hi]])] = mk 40 [(3, bV p3), (5, pV 5), (6, pV 6), (15, lV 6 eLock p0.held), (16, iV (((((p0.held).map eLock).length : Nat) : Int))), (17, iV s1), (38, bV (bif (((x1.tx.c == p1.c) && ((x1.tx.e == p1.e) && ((x1.tx.n == p1.n) && true)))) then (bif (s_RangeIn p2 x1.range) then (bif x1.ex then true else (!p3)) else false) else false))] [(5, [.bx [iC p1.c, iC p1.e, iC p1.n]]), (6, [.bx [sC p2.lo, sC p2.hi]])]
                first | rfl | (simp only [h3, h4, cond_true, cond_false]) | (simp only [h3, h4, cond_true, cond_false]; rfl)
            · refine ao_saysM (k := 25) (t := bV (((x1.tx.c == p1.c) && ((x1.tx.e == p1.e) && ((x1.tx.n == p1.n) && true))))) (t' := bV false) (l1 := [(3, bV p3), (5, pV 5), (6, pV 6), (10, pV 10), (15, lV 6 eLock p0.held), (16, iV (((((p0.held).map eLock).length : Nat) : Int))), (17, iV s1), (25, bV false)]) (by kernel_rfl) (by rw [h3]) (by kernel_rfl) ?_
              refine ao_some [5, 6, 7, 8, 9, 10, 11, 12, 13, 14, 15, 16, 17] [] [3, 5, 6, 15, 16, 17, 38] tyOK (st1 := mk 40 [(3, bV p3), (5, pV 5), (6, pV 6), (15, lV 6 eLock p0.held), (16, iV (((((p0.held).map eLock).length : Nat) : Int))), (17, iV s1), (38, bV false)] [(5, [.bx [iC p1.c, iC p1.e, iC p1.n]]), (6, [.bx [sC p2.lo, sC p2.hi]])]) (by kernel_rfl) ?_
              refine ao_nil ?_
              show mk 40 [(3, bV p3), (5, pV 5), (6, pV 6), (15, lV 6 eLock p0.held), (16, iV (((((p0.held).map eLock).length : Nat) : Int))), (17, iV s1), (38, bV false)] [(5, [.bx [iC p1.c, iC p1.e, iC p1.n]]), (6, [.bx [sC p2.lo, sC p2.hi]])] = mk 40 [(3, bV p3), (5, pV 5), (6, pV 6), (15, lV 6 eLock p0.held), (16, iV (((((p0.held).map eLock).length : Nat) : Int))), (17, iV s1), (38, bV (bif (((x1.tx.c == p1.c) && ((x1.tx.e == p1.e) && ((x1.tx.n == p1.n) && true)))) then (bif (s_RangeIn p2 x1.range) then (bif x1.ex then true else (!p3)) else false) else false))] [(5, [.bx [iC p1.c, iC p1.e, iC p1.n]]), (6, [.bx [sC p2.lo, sC p2.hi]])]
              first | rfl | (simp only [h3, cond_true, cond_false]) | (simp only [h3, cond_true, cond_false]; rfl)
          refine a_cond (b := bif (((x1.tx.c == p1.c) && ((x1.tx.e == p1.e) && ((x1.tx.n == p1.n) && true)))) then (bif (s_RangeIn p2 x1.range) then (bif x1.ex then true else (!p3)) else false) else false) (by kernel_rfl) (fun h3 => ?_) (fun h3 => ?_)
          · replace h := cT h3 h
            refine a_seq ?_
            refine a_run [8] tyOK (st1 := mk 40 [(8, bV true)] []) (by kernel_rfl) ?_
            refine a_ret ?_
            obtain rfl := Option.some.inj h
            obtain rfl := zy2 _ rfl
            obtain rfl := zy1 _ rfl
            exact end_eq (res' := bV true) (by kernel_rfl) (by first | rfl | simp)
          · replace h := cF h3 h
            refine a_skip ?_
            refine a_runM tyOK (l1 := [(3, bV p3), (5, pV 5), (6, pV 6), (15, lV 6 eLock p0.held), (16, iV (((((p0.held).map eLock).length : Nat) : Int))), (17, iV (IntKind.wrap .i64 (s1 + 1)))]) (by kernel_rfl) ?_
            obtain rfl := Option.some.inj h
            show ∃ _, _ ∧ Imp _ _ _
            refine ⟨_, rfl, ?_⟩
            exact imp_keepTo [3, 5, 6, 15, 16, 17] (by kernel_rfl) (imp_done rfl)
        · replace h := cF h2 h
          refine a_exit ?_
          obtain rfl := Option.some.inj h
          obtain rfl := zy2 _ rfl
          show ∃ _, _ ∧ Imp _ _ _
          refine ⟨_, rfl, ?_⟩
          exact imp_keepTo [] (by kernel_rfl) (imp_done rfl)
      intro j1 hj1
      replace h := ky1 _ hj1
      refine a_seq ?_
      refine a_run [8] tyOK (st1 := mk 40 [(8, bV false)] []) (by kernel_rfl) ?_
      refine a_ret ?_
      obtain rfl := Option.some.inj h
      exact end_eq (res' := bV false) (by kernel_rfl) (by first | rfl | simp)


end Go.Proofs.Ytagoajkiccgmjaa
namespace Go.Proofs.Ytagoajkiccgmjaa
open Go.Mv Go.RowKit
noncomputable def Bw_FnLocks_1 (r1 : Locks × Lock) (r4 : Locks × (List Lock)) (s1 : Int) : Option (Int ⊕ (Unit ⊕ (Bool))) :=
 bif (decide (s1 < ((((r4.1.held ++ r4.1.wait).length : Nat) : Int)))) then
 (bnd (getI (r4.1.held ++ r4.1.wait) s1) fun x1 =>
 bif (((x1.tx.c == r1.2.tx.c) && ((x1.tx.e == r1.2.tx.e) && ((x1.tx.n == r1.2.tx.n) && true)))) then
 (some (.inr (.inr false)))
 else
 (some (.inl (IntKind.wrap .i64 (s1 + 1)))))
 else
 (some (.inr (.inl (()))))

noncomputable def w_FnLocks (p0 : (List Int)) : Option (Bool) :=
 bif (decide ((((((p0).map eN_u8).length : Nat) : Int)) > 1048576)) then
 (some true)
 else
 (bnd (s_DrawLockAsk p0) fun r1 =>
 bnd (i_LockAsk r1.1 r1.2) fun r2 =>
 bnd (s_LockAsk r1.1 r1.2) fun r3 =>
 bif ((r2.2 != r3.2)) then
 (some false)
 else
 (bif (bif ((r2.2 == 1)) then true else ((r2.2 == 2))) then
 (some (bif (((((((r2.1.held).map eLock).length : Nat) : Int)) == 0)) then (((((((r2.1.wait).map eLock).length : Nat) : Int)) == 0)) else false))
 else
 (bnd (i_LockFree r2.1 r1.2.tx) fun r4 =>
 chk (((([] : List Lock)).length + (r4.1.held).length) * 64 ≤ 140737488355328) <|
 chk (((r4.1.held).length + (r4.1.wait).length) * 64 ≤ 140737488355328) <|
 bndS (loopT (Bw_FnLocks_1 r1 r4) 0) fun j1 =>
 bnd (bnd (i_LocksOk r2.1) fun r5 =>
 bif r5 then
 (bnd (i_LocksOk r4.1) fun r6 =>
 bif r6 then
 (bnd (i_LockHas r2.1 r1.2.tx r1.2.range r1.2.ex) fun r7 =>
 bif ((r2.2 == 0)) then
 (some ((r7 == true)))
 else
 (bnd (s_LockHas r1.1 r1.2.tx r1.2.range r1.2.ex) fun r8 =>
 some ((r7 == r8))))
 else
 (some false))
 else
 (some false)) fun j2 =>
 some j2)))
set_option maxHeartbeats 4000000 in
/-- laws.FnLocks -/
theorem k_w_FnLocks (p0 : (List Int)) (v : Bool) (h : w_FnLocks p0 = some v) : CallOK Try.prog 4 [lV 1 eN_u8 p0] (bV v) [] :=
  callOK tyOK Try.func4 rfl fun w S hS => by
    unfold w_FnLocks at h
    refine a_seq ?_
    refine a_run [0] tyOK (st1 := mk 106 [(0, lV 1 eN_u8 p0)] []) (by as_aux_lemma => kernel_rfl) ?_
    refine a_seq ?_
    refine a_seq ?_
    refine a_runM tyOK (l1 := [(0, lV 1 eN_u8 p0), (15, bV (decide ((((((p0).map eN_u8).length : Nat) : Int)) > 1048576)))]) (by as_aux_lemma => kernel_rfl) ?_
    refine a_cond (b := decide ((((((p0).map eN_u8).length : Nat) : Int)) > 1048576)) (by as_aux_lemma => kernel_rfl) (fun h1 => ?_) (fun h1 => ?_)
    · replace h := cT h1 h
      refine a_seq ?_
      refine a_runM tyOK (l1 := [(2, bV true)]) (by as_aux_lemma => kernel_rfl) ?_
      refine a_ret ?_
      obtain rfl := Option.some.inj h
      exact end_eq (res' := bV true) (by as_aux_lemma => kernel_rfl) (by first | rfl | simp)
    · replace h := cF h1 h
      refine a_skip ?_
      refine a_seq ?_
      refine a_ops [0, 1, 2, 3, 4, 5, 6, 7, 8] (by as_aux_lemma => kernel_rfl) ?_
      refine ao_someM [0] [1, 2, 3, 4, 5, 6, 7, 8] tyOK (l1 := [(17, lV 1 eN_u8 p0)]) (by as_aux_lemma => kernel_rfl) ?_
      obtain ⟨r1, er1, h⟩ := bnd_e h
      refine ao_enter (f := 17) (d := 18) (A := [lV 1 eN_u8 p0]) (st1 := mk 106 [(18, .tup [.agg [.so [] 18 0 ((r1.1.held).length), .so [] 18 1 ((r1.1.wait).length)], .agg [.c (iC r1.2.tx.c), .c (iC r1.2.tx.e), .c (iC r1.2.tx.n), .c (sC r1.2.range.lo), .c (sC r1.2.range.hi), .c (bC r1.2.ex)]])] [(18, [lC 6 eLock r1.1.held, lC 6 eLock r1.1.wait])]) [18] (k_s_DrawLockAsk p0 r1 er1) Try.call17 (by as_aux_lemma => kernel_rfl) (by as_aux_lemma => kernel_rfl) (by as_aux_lemma => kernel_rfl) ?_
      refine ao_some [2, 3, 4, 5, 6] [7, 8] [3, 4, 19, 20] tyOK (st1 := mk 106 [(3, pV 3), (4, pV 4), (19, .agg [.so [] 18 0 ((r1.1.held).length), .so [] 18 1 ((r1.1.wait).length)]), (20, .agg [.c (iC r1.2.tx.c), .c (iC r1.2.tx.e), .c (iC r1.2.tx.n), .c (sC r1.2.range.lo), .c (sC r1.2.range.hi), .c (bC r1.2.ex)])] [(3, [.bx [.sl 6 ([]), .sl 6 ([])]]), (4, [.bx [iC 0, iC 0, iC 0, sC ((⟨#[]⟩ : ByteArray)), sC ((⟨#[]⟩ : ByteArray)), bC false]]), (18, [lC 6 eLock r1.1.held, lC 6 eLock r1.1.wait])]) (by as_aux_lemma => kernel_rfl) ?_
      refine ao_o (ob := [(((r1.1.held).map eLock).length, (r1.1.held).length), (((r1.1.wait).map eLock).length, (r1.1.wait).length)]) (st1 := mk 106 [(3, pV 3), (4, pV 4), (20, .agg [.c (iC r1.2.tx.c), .c (iC r1.2.tx.e), .c (iC r1.2.tx.n), .c (sC r1.2.range.lo), .c (sC r1.2.range.hi), .c (bC r1.2.ex)])] [(3, [.bx [lC 6 eLock r1.1.held, lC 6 eLock r1.1.wait]]), (4, [.bx [iC 0, iC 0, iC 0, sC ((⟨#[]⟩ : ByteArray)), sC ((⟨#[]⟩ : ByteArray)), bC false]])]) [3, 4, 20] tyOK (by as_aux_lemma => kernel_rfl) ⟨by simp, by simp, trivial⟩ ?_
      refine ao_some [8] [] [3, 4] tyOK (st1 := mk 106 [(3, pV 3), (4, pV 4)] [(3, [.bx [lC 6 eLock r1.1.held, lC 6 eLock r1.1.wait]]), (4, [.bx [iC r1.2.tx.c, iC r1.2.tx.e, iC r1.2.tx.n, sC r1.2.range.lo, sC r1.2.range.hi, bC r1.2.ex]])]) (by as_aux_lemma => kernel_rfl) ?_
      refine ao_nil ?_
      refine a_seq ?_
      refine a_ops [0, 1, 2, 3, 4, 5, 6, 7, 8] (by as_aux_lemma => kernel_rfl) ?_
      refine ao_someM [0, 1] [2, 3, 4, 5, 6, 7, 8] tyOK (l1 := [(3, pV 3), (4, pV 4), (22, .agg [.so [(3, 0)] 0 0 (((r1.1.held).map eLock).length), .so [(3, 0)] 0 1 (((r1.1.wait).map eLock).length)]), (23, .agg [.c (iC r1.2.tx.c), .c (iC r1.2.tx.e), .c (iC r1.2.tx.n), .c (sC r1.2.range.lo), .c (sC r1.2.range.hi), .c (bC r1.2.ex)])]) (by as_aux_lemma => kernel_rfl) ?_
      obtain ⟨r2, er2, h⟩ := bnd_e h
      refine ao_lend (f := 18) (d := 24) (A := [.agg [.so [(3, 0)] 0 0 (((r1.1.held).map eLock).length), .so [(3, 0)] 0 1 (((r1.1.wait).map eLock).length)], .agg [.c (iC r1.2.tx.c), .c (iC r1.2.tx.e), .c (iC r1.2.tx.n), .c (sC r1.2.range.lo), .c (sC r1.2.range.hi), .c (bC r1.2.ex)]]) (A' := [.agg [.c (lC 6 eLock r1.1.held), .c (lC 6 eLock r1.1.wait)], .agg [.c (iC r1.2.tx.c), .c (iC r1.2.tx.e), .c (iC r1.2.tx.n), .c (sC r1.2.range.lo), .c (sC r1.2.range.hi), .c (bC r1.2.ex)]]) (st1 := mk 106 [(3, pV 3), (4, pV 4), (24, .tup [.agg [.so [] 24 0 ((r2.1.held).length), .so [] 24 1 ((r2.1.wait).length)], .one (.c (iC r2.2))])] [(3, [.bx [lC 6 eLock r1.1.held, lC 6 eLock r1.1.wait]]), (4, [.bx [iC r1.2.tx.c, iC r1.2.tx.e, iC r1.2.tx.n, sC r1.2.range.lo, sC r1.2.range.hi, bC r1.2.ex]]), (24, [lC 6 eLock r2.1.held, lC 6 eLock r2.1.wait])]) [3, 4, 24] (k_i_LockAsk r1.1 r1.2 r2 er2) Try.call18 (by as_aux_lemma => kernel_rfl) (.cons (.agg (.cons (lend_so (by as_aux_lemma => kernel_rfl) (by simp)) (.cons (lend_so (by as_aux_lemma => kernel_rfl) (by simp)) .nil))) (.cons (.agg (.cons (.same rfl) (.cons (.same rfl) (.cons (.same rfl) (.cons (.same rfl) (.cons (.same rfl) (.cons (.same rfl) .nil))))))) .nil)) (by as_aux_lemma => kernel_rfl) (clean_cons (clean_map cl_Lock _) (clean_cons (clean_map cl_Lock _) (clean_nil))) (by as_aux_lemma => kernel_rfl) (by as_aux_lemma => kernel_rfl) ?_
      refine ao_some [3, 4, 5, 6] [7, 8] [3, 4, 5, 25, 26] tyOK (st1 := mk 106 [(3, pV 3), (4, pV 4), (5, pV 5), (25, .agg [.so [] 24 0 ((r2.1.held).length), .so [] 24 1 ((r2.1.wait).length)]), (26, iV r2.2)] [(3, [.bx [lC 6 eLock r1.1.held, lC 6 eLock r1.1.wait]]), (4, [.bx [iC r1.2.tx.c, iC r1.2.tx.e, iC r1.2.tx.n, sC r1.2.range.lo, sC r1.2.range.hi, bC r1.2.ex]]), (5, [.bx [.sl 6 ([]), .sl 6 ([])]]), (24, [lC 6 eLock r2.1.held, lC 6 eLock r2.1.wait])]) (by as_aux_lemma => kernel_rfl) ?_
      refine ao_o (ob := [(((r2.1.held).map eLock).length, (r2.1.held).length), (((r2.1.wait).map eLock).length, (r2.1.wait).length)]) (st1 := mk 106 [(3, pV 3), (4, pV 4), (5, pV 5), (26, iV r2.2)] [(3, [.bx [lC 6 eLock r1.1.held, lC 6 eLock r1.1.wait]]), (4, [.bx [iC r1.2.tx.c, iC r1.2.tx.e, iC r1.2.tx.n, sC r1.2.range.lo, sC r1.2.range.hi, bC r1.2.ex]]), (5, [.bx [lC 6 eLock r2.1.held, lC 6 eLock r2.1.wait]])]) [3, 4, 5, 26] tyOK (by as_aux_lemma => kernel_rfl) ⟨by simp, by simp, trivial⟩ ?_
      refine ao_someM [8] [] tyOK (l1 := [(3, pV 3), (4, pV 4), (5, pV 5), (6, iV r2.2)]) (by as_aux_lemma => kernel_rfl) ?_
      refine ao_nil ?_
      refine a_seq ?_
      refine a_ops [0, 1, 2, 3, 4, 5, 6, 7, 8] (by as_aux_lemma => kernel_rfl) ?_
      refine ao_someM [0, 1] [2, 3, 4, 5, 6, 7, 8] tyOK (l1 := [(3, pV 3), (4, pV 4), (5, pV 5), (6, iV r2.2), (28, .agg [.so [(3, 0)] 0 0 (((r1.1.held).map eLock).length), .so [(3, 0)] 0 1 (((r1.1.wait).map eLock).length)]), (29, .agg [.c (iC r1.2.tx.c), .c (iC r1.2.tx.e), .c (iC r1.2.tx.n), .c (sC r1.2.range.lo), .c (sC r1.2.range.hi), .c (bC r1.2.ex)])]) (by as_aux_lemma => kernel_rfl) ?_
      obtain ⟨r3, er3, h⟩ := bnd_e h
      refine ao_lend (f := 19) (d := 30) (A := [.agg [.so [(3, 0)] 0 0 (((r1.1.held).map eLock).length), .so [(3, 0)] 0 1 (((r1.1.wait).map eLock).length)], .agg [.c (iC r1.2.tx.c), .c (iC r1.2.tx.e), .c (iC r1.2.tx.n), .c (sC r1.2.range.lo), .c (sC r1.2.range.hi), .c (bC r1.2.ex)]]) (A' := [.agg [.c (lC 6 eLock r1.1.held), .c (lC 6 eLock r1.1.wait)], .agg [.c (iC r1.2.tx.c), .c (iC r1.2.tx.e), .c (iC r1.2.tx.n), .c (sC r1.2.range.lo), .c (sC r1.2.range.hi), .c (bC r1.2.ex)]]) (st1 := mk 106 [(3, pV 3), (4, pV 4), (5, pV 5), (6, iV r2.2), (30, .tup [.agg [.so [] 30 0 ((r3.1.held).length), .so [] 30 1 ((r3.1.wait).length)], .one (.c (iC r3.2))])] [(3, [.bx [lC 6 eLock r1.1.held, lC 6 eLock r1.1.wait]]), (4, [.bx [iC r1.2.tx.c, iC r1.2.tx.e, iC r1.2.tx.n, sC r1.2.range.lo, sC r1.2.range.hi, bC r1.2.ex]]), (5, [.bx [lC 6 eLock r2.1.held, lC 6 eLock r2.1.wait]]), (30, [lC 6 eLock r3.1.held, lC 6 eLock r3.1.wait])]) [3, 4, 5, 6, 30] (k_s_LockAsk r1.1 r1.2 r3 er3) Try.call19 (by as_aux_lemma => kernel_rfl) (.cons (.agg (.cons (lend_so (by as_aux_lemma => kernel_rfl) (by simp)) (.cons (lend_so (by as_aux_lemma => kernel_rfl) (by simp)) .nil))) (.cons (.agg (.cons (.same rfl) (.cons (.same rfl) (.cons (.same rfl) (.cons (.same rfl) (.cons (.same rfl) (.cons (.same rfl) .nil))))))) .nil)) (by as_aux_lemma => kernel_rfl) (clean_cons (clean_map cl_Lock _) (clean_cons (clean_map cl_Lock _) (clean_nil))) (by as_aux_lemma => kernel_rfl) (by as_aux_lemma => kernel_rfl) ?_
      refine ao_some [3, 4, 5, 6] [7, 8] [3, 4, 5, 6, 7, 31, 32] tyOK (st1 := mk 106 [(3, pV 3), (4, pV 4), (5, pV 5), (6, iV r2.2), (7, pV 7), (31, .agg [.so [] 30 0 ((r3.1.held).length), .so [] 30 1 ((r3.1.wait).length)]), (32, iV r3.2)] [(3, [.bx [lC 6 eLock r1.1.held, lC 6 eLock r1.1.wait]]), (4, [.bx [iC r1.2.tx.c, iC r1.2.tx.e, iC r1.2.tx.n, sC r1.2.range.lo, sC r1.2.range.hi, bC r1.2.ex]]), (5, [.bx [lC 6 eLock r2.1.held, lC 6 eLock r2.1.wait]]), (7, [.bx [.sl 6 ([]), .sl 6 ([])]]), (30, [lC 6 eLock r3.1.held, lC 6 eLock r3.1.wait])]) (by as_aux_lemma => kernel_rfl) ?_
      refine ao_o (ob := [(((r3.1.held).map eLock).length, (r3.1.held).length), (((r3.1.wait).map eLock).length, (r3.1.wait).length)]) (st1 := mk 106 [(3, pV 3), (4, pV 4), (5, pV 5), (6, iV r2.2), (32, iV r3.2)] [(3, [.bx [lC 6 eLock r1.1.held, lC 6 eLock r1.1.wait]]), (4, [.bx [iC r1.2.tx.c, iC r1.2.tx.e, iC r1.2.tx.n, sC r1.2.range.lo, sC r1.2.range.hi, bC r1.2.ex]]), (5, [.bx [lC 6 eLock r2.1.held, lC 6 eLock r2.1.wait]])]) [3, 4, 5, 6, 32] tyOK (by as_aux_lemma => kernel_rfl) ⟨by simp, by simp, trivial⟩ ?_
      refine ao_someM [8] [] tyOK (l1 := [(3, pV 3), (4, pV 4), (5, pV 5), (6, iV r2.2), (8, iV r3.2)]) (by as_aux_lemma => kernel_rfl) ?_
      refine ao_nil ?_
      refine a_seq ?_
      refine a_seq ?_
      refine a_runM tyOK (l1 := [(3, pV 3), (4, pV 4), (5, pV 5), (6, iV r2.2), (35, bV ((r2.2 != r3.2)))]) (by as_aux_lemma => kernel_rfl) ?_
      refine a_cond (b := (r2.2 != r3.2)) (by as_aux_lemma => kernel_rfl) (fun h2 => ?_) (fun h2 => ?_)
      · replace h := cT h2 h
        refine a_seq ?_
        refine a_run [2] tyOK (st1 := mk 106 [(2, bV false)] []) (by as_aux_lemma => kernel_rfl) ?_
        refine a_ret ?_
        obtain rfl := Option.some.inj h
        exact end_eq (res' := bV false) (by as_aux_lemma => kernel_rfl) (by first | rfl | simp)
      · replace h := cF h2 h
        refine a_skip ?_
        refine a_seq ?_
        refine a_seq ?_
        refine a_mid (mk 106 [(3, pV 3), (4, pV 4), (5, pV 5), (6, iV r2.2), (41, bV (bif ((r2.2 == 1)) then true else ((r2.2 == 2))))] [(3, [.bx [lC 6 eLock r1.1.held, lC 6 eLock r1.1.wait]]), (4, [.bx [iC r1.2.tx.c, iC r1.2.tx.e, iC r1.2.tx.n, sC r1.2.range.lo, sC r1.2.range.hi, bC r1.2.ex]]), (5, [.bx [lC 6 eLock r2.1.held, lC 6 eLock r2.1.wait]])]) ?_ ?_
        · refine a_ops [0, 1, 2, 3, 4, 5] (by as_aux_lemma => kernel_rfl) ?_
          refine ao_someM [0, 1, 2] [3, 4, 5] tyOK (l1 := [(3, pV 3), (4, pV 4), (5, pV 5), (6, iV r2.2), (38, bV ((r2.2 == 1)))]) (by as_aux_lemma => kernel_rfl) ?_
          rcases Bool.eq_false_or_eq_true ((r2.2 == 1)) with h3 | h3
          · refine ao_saysM (k := 38) (t := bV ((r2.2 == 1))) (t' := bV true) (l1 := [(3, pV 3), (4, pV 4), (5, pV 5), (6, iV r2.2), (38, bV true)]) (by as_aux_lemma => kernel_rfl) (by rw [h3]) (by as_aux_lemma => kernel_rfl) ?_
            refine ao_someM [3, 4, 5] [] tyOK (l1 := [(3, pV 3), (4, pV 4), (5, pV 5), (6, iV r2.2), (41, bV true)]) (by as_aux_lemma => kernel_rfl) ?_
            refine ao_nil ?_
            show mk 106 [(3, pV 3), (4, pV 4), (5, pV 5), (6, iV r2.2), (41, bV true)] [(3, [.bx [lC 6 eLock r1.1.held, lC 6 eLock r1.1.wait]]), (4, [.bx [iC r1.2.tx.c, iC r1.2.tx.e, iC r1.2.tx.n, sC r1.2.range.lo, sC r1.2.range.hi, bC r1.2.ex]]), (5, [.bx [lC 6 eLock r2.1.held, lC 6 eLock r2.1.wait]])] = mk 106 [(3, pV 3), (4, pV 4), (5, pV 5), (6, iV r2.2), (41, bV (bif ((r2.2 == 1)) then true else ((r2.2 == 2))))] [(3, [.bx [lC 6 eLock r1.1.held, lC 6 eLock r1.1.wait]]), (4, [.bx [iC r1.2.tx.c, iC r1.2.tx.e, iC r1.2.tx.n, sC r1.2.range.lo, sC r1.2.range.hi, bC r1.2.ex]]), (5, [.bx [lC 6 eLock r2.1.held, lC 6 eLock r2.1.wait]])]
            first | rfl | (simp only [h3, cond_true, cond_false]) | (simp only [h3, cond_true, cond_false]; rfl)
          · refine ao_saysM (k := 38) (t := bV ((r2.2 == 1))) (t' := bV false) (l1 := [(3, pV 3), (4, pV 4), (5, pV 5), (6, iV r2.2), (38, bV false)]) (by as_aux_lemma => kernel_rfl) (by rw [h3]) (by as_aux_lemma => kernel_rfl) ?_
            refine ao_someM [3, 4, 5] [] tyOK (l1 := [(3, pV 3), (4, pV 4), (5, pV 5), (6, iV r2.2), (41, bV ((r2.2 == 2)))]) (by as_aux_lemma => kernel_rfl) ?_
            refine ao_nil ?_
            show mk 106 [(3, pV 3), (4, pV 4), (5, pV 5), (6, iV r2.2), (41, bV ((r2.2 == 2)))] [(3, [.bx [lC 6 eLock r1.1.held, lC 6 eLock r1.1.wait]]), (4, [.bx [iC r1.2.tx.c, iC r1.2.tx.e, iC r1.2.tx.n, sC r1.2.range.lo, sC r1.2.range.hi, bC r1.2.ex]]), (5, [.bx [lC 6 eLock r2.1.held, lC 6 eLock r2.1.wait]])] = mk 106 [(3, pV 3), (4, pV 4), (5, pV 5), (6, iV r2.2), (41, bV (bif ((r2.2 == 1)) then true else ((r2.2 == 2))))] [(3, [.bx [lC 6 eLock r1.1.held, lC 6 eLock r1.1.wait]]), (4, [.bx [iC r1.2.tx.c, iC r1.2.tx.e, iC r1.2.tx.n, sC r1.2.range.lo, sC r1.2.range.hi, bC r1.2.ex]]), (5, [.bx [lC 6 eLock r2.1.held, lC 6 eLock r2.1.wait]])]
            first | rfl | (simp only [h3, cond_true, cond_false]) | (simp only [h3, cond_true, cond_false]; rfl)
        refine a_cond (b := bif ((r2.2 == 1)) then true else ((r2.2 == 2))) (by as_aux_lemma => kernel_rfl) (fun h3 => ?_) (fun h3 => ?_)
        · replace h := cT h3 h
          refine a_seq ?_
          refine a_mid (mk 106 [(2, bV (bif (((((((r2.1.held).map eLock).length : Nat) : Int)) == 0)) then (((((((r2.1.wait).map eLock).length : Nat) : Int)) == 0)) else false))] []) ?_ ?_
          · refine a_ops [0, 1, 2, 3, 4, 5, 6, 7, 8, 9, 10] (by as_aux_lemma => kernel_rfl) ?_
            refine ao_some [0, 1, 2, 3, 4] [5, 6, 7, 8, 9, 10] [5, 46] tyOK (st1 := mk 106 [(5, pV 5), (46, bV (((((((r2.1.held).map eLock).length : Nat) : Int)) == 0)))] [(5, [.bx [lC 6 eLock r2.1.held, lC 6 eLock r2.1.wait]])]) (by as_aux_lemma => kernel_rfl) ?_
            rcases Bool.eq_false_or_eq_true (((((((r2.1.held).map eLock).length : Nat) : Int)) == 0)) with h4 | h4
            · refine ao_saysM (k := 46) (t := bV (((((((r2.1.held).map eLock).length : Nat) : Int)) == 0))) (t' := bV true) (l1 := [(5, pV 5), (46, bV true)]) (by as_aux_lemma => kernel_rfl) (by rw [h4]) (by as_aux_lemma => kernel_rfl) ?_
              refine ao_some [5, 6, 7, 8, 9, 10] [] [2] tyOK (st1 := mk 106 [(2, bV (((((((r2.1.wait).map eLock).length : Nat) : Int)) == 0)))] []) (by as_aux_lemma => kernel_rfl) ?_
              refine ao_nil ?_
              show mk 106 [(2, bV (((((((r2.1.wait).map eLock).length : Nat) : Int)) == 0)))] [] = mk 106 [(2, bV (bif (((((((r2.1.held).map eLock).length : Nat) : Int)) == 0)) then (((((((r2.1.wait).map eLock).length : Nat) : Int)) == 0)) else false))] []
              first | rfl | (simp only [h4, cond_true, cond_false]) | (simp only [h4, cond_true, cond_false]; rfl)
            · refine ao_saysM (k := 46) (t := bV (((((((r2.1.held).map eLock).length : Nat) : Int)) == 0))) (t' := bV false) (l1 := [(5, pV 5), (46, bV false)]) (by as_aux_lemma => kernel_rfl) (by rw [h4]) (by as_aux_lemma => kernel_rfl) ?_
              refine ao_some [5, 6, 7, 8, 9, 10] [] [2] tyOK (st1 := mk 106 [(2, bV false)] []) (by as_aux_lemma => kernel_rfl) ?_
              refine ao_nil ?_
              show mk 106 [(2, bV false)] [] = mk 106 [(2, bV (bif (((((((r2.1.held).map eLock).length : Nat) : Int)) == 0)) then (((((((r2.1.wait).map eLock).length : Nat) : Int)) == 0)) else false))] []
              first | rfl | (simp only [h4, cond_true, cond_false]) | (simp only [h4, cond_true, cond_false]; rfl)
          refine a_ret ?_
          obtain rfl := Option.some.inj h
          exact end_eq (res' := bV (bif (((((((r2.1.held).map eLock).length : Nat) : Int)) == 0)) then (((((((r2.1.wait).map eLock).length : Nat) : Int)) == 0)) else false)) (by as_aux_lemma => kernel_rfl) (by first | rfl | simp)
        · replace h := cF h3 h
          refine a_skip ?_
          refine a_seq ?_
          refine a_ops [0, 1, 2, 3, 4, 5, 6, 7, 8, 9] (by as_aux_lemma => kernel_rfl) ?_
          refine ao_someM [0, 1, 2] [3, 4, 5, 6, 7, 8, 9] tyOK (l1 := [(3, pV 3), (4, pV 4), (5, pV 5), (6, iV r2.2), (53, .agg [.so [(5, 0)] 0 0 (((r2.1.held).map eLock).length), .so [(5, 0)] 0 1 (((r2.1.wait).map eLock).length)]), (55, .agg [.c (iC r1.2.tx.c), .c (iC r1.2.tx.e), .c (iC r1.2.tx.n)])]) (by as_aux_lemma => kernel_rfl) ?_
          obtain ⟨r4, er4, h⟩ := bnd_e h
          refine ao_lend (f := 20) (d := 56) (A := [.agg [.so [(5, 0)] 0 0 (((r2.1.held).map eLock).length), .so [(5, 0)] 0 1 (((r2.1.wait).map eLock).length)], .agg [.c (iC r1.2.tx.c), .c (iC r1.2.tx.e), .c (iC r1.2.tx.n)]]) (A' := [.agg [.c (lC 6 eLock r2.1.held), .c (lC 6 eLock r2.1.wait)], .agg [.c (iC r1.2.tx.c), .c (iC r1.2.tx.e), .c (iC r1.2.tx.n)]]) (st1 := mk 106 [(3, pV 3), (4, pV 4), (5, pV 5), (6, iV r2.2), (56, .tup [.agg [.so [] 56 0 ((r4.1.held).length), .so [] 56 1 ((r4.1.wait).length)], .one (.so [] 56 2 ((r4.2).length))])] [(3, [.bx [lC 6 eLock r1.1.held, lC 6 eLock r1.1.wait]]), (4, [.bx [iC r1.2.tx.c, iC r1.2.tx.e, iC r1.2.tx.n, sC r1.2.range.lo, sC r1.2.range.hi, bC r1.2.ex]]), (5, [.bx [lC 6 eLock r2.1.held, lC 6 eLock r2.1.wait]]), (56, [lC 6 eLock r4.1.held, lC 6 eLock r4.1.wait, lC 6 eLock r4.2])]) [3, 4, 5, 6, 56] (k_i_LockFree r2.1 r1.2.tx r4 er4) Try.call20 (by as_aux_lemma => kernel_rfl) (.cons (.agg (.cons (lend_so (by as_aux_lemma => kernel_rfl) (by simp)) (.cons (lend_so (by as_aux_lemma => kernel_rfl) (by simp)) .nil))) (.cons (.agg (.cons (.same rfl) (.cons (.same rfl) (.cons (.same rfl) .nil)))) .nil)) (by as_aux_lemma => kernel_rfl) (clean_cons (clean_map cl_Lock _) (clean_cons (clean_map cl_Lock _) (clean_cons (clean_map cl_Lock _) (clean_nil)))) (by as_aux_lemma => kernel_rfl) (by as_aux_lemma => kernel_rfl) ?_
          refine ao_some [4, 5, 6, 7] [8, 9] [3, 4, 5, 6, 9, 57, 58] tyOK (st1 := mk 106 [(3, pV 3), (4, pV 4), (5, pV 5), (6, iV r2.2), (9, pV 9), (57, .agg [.so [] 56 0 ((r4.1.held).length), .so [] 56 1 ((r4.1.wait).length)]), (58, .one (.so [] 56 2 ((r4.2).length)))] [(3, [.bx [lC 6 eLock r1.1.held, lC 6 eLock r1.1.wait]]), (4, [.bx [iC r1.2.tx.c, iC r1.2.tx.e, iC r1.2.tx.n, sC r1.2.range.lo, sC r1.2.range.hi, bC r1.2.ex]]), (5, [.bx [lC 6 eLock r2.1.held, lC 6 eLock r2.1.wait]]), (9, [.bx [.sl 6 ([]), .sl 6 ([])]]), (56, [lC 6 eLock r4.1.held, lC 6 eLock r4.1.wait, lC 6 eLock r4.2])]) (by as_aux_lemma => kernel_rfl) ?_
          refine ao_o (ob := [(((r4.1.held).map eLock).length, (r4.1.held).length), (((r4.1.wait).map eLock).length, (r4.1.wait).length)]) (st1 := mk 106 [(3, pV 3), (4, pV 4), (5, pV 5), (6, iV r2.2), (9, pV 9), (58, .one (.so [] 56 2 ((r4.2).length)))] [(3, [.bx [lC 6 eLock r1.1.held, lC 6 eLock r1.1.wait]]), (4, [.bx [iC r1.2.tx.c, iC r1.2.tx.e, iC r1.2.tx.n, sC r1.2.range.lo, sC r1.2.range.hi, bC r1.2.ex]]), (5, [.bx [lC 6 eLock r2.1.held, lC 6 eLock r2.1.wait]]), (9, [.bx [lC 6 eLock r4.1.held, lC 6 eLock r4.1.wait]]), (56, [.dead, .dead, lC 6 eLock r4.2])]) [3, 4, 5, 6, 9, 58] tyOK (by as_aux_lemma => kernel_rfl) ⟨by simp, by simp, trivial⟩ ?_
          refine ao_some [9] [] [3, 4, 5, 6, 9] tyOK (st1 := mk 106 [(3, pV 3), (4, pV 4), (5, pV 5), (6, iV r2.2), (9, pV 9)] [(3, [.bx [lC 6 eLock r1.1.held, lC 6 eLock r1.1.wait]]), (4, [.bx [iC r1.2.tx.c, iC r1.2.tx.e, iC r1.2.tx.n, sC r1.2.range.lo, sC r1.2.range.hi, bC r1.2.ex]]), (5, [.bx [lC 6 eLock r2.1.held, lC 6 eLock r2.1.wait]]), (9, [.bx [lC 6 eLock r4.1.held, lC 6 eLock r4.1.wait]])]) (by as_aux_lemma => kernel_rfl) ?_
          refine ao_nil ?_
          refine a_seq ?_
          refine a_seq ?_
          obtain ⟨c1, h⟩ := chk_e h
          obtain ⟨c2, h⟩ := chk_e h
          refine a_mid (mk 106 [(3, pV 3), (4, pV 4), (5, pV 5), (6, iV r2.2), (9, pV 9), (65, .one (.so [] 65 0 ((r4.1.held ++ r4.1.wait).length))), (66, iV ((((r4.1.held ++ r4.1.wait).length : Nat) : Int))), (67, iV 0)] [(3, [.bx [lC 6 eLock r1.1.held, lC 6 eLock r1.1.wait]]), (4, [.bx [iC r1.2.tx.c, iC r1.2.tx.e, iC r1.2.tx.n, sC r1.2.range.lo, sC r1.2.range.hi, bC r1.2.ex]]), (5, [.bx [lC 6 eLock r2.1.held, lC 6 eLock r2.1.wait]]), (9, [.bx [lC 6 eLock r4.1.held, lC 6 eLock r4.1.wait]]), (65, [lC 6 eLock (r4.1.held ++ r4.1.wait)])]) ?_ ?_
          · refine a_drawn (n := 9) [3, 6] (by as_aux_lemma => kernel_rfl) (by as_aux_lemma => kernel_rfl) ?_
            refine aa_with (fun K to of => ?_)
            have k1 : K 1 #[true, true, true, true, true, true, true, false, true] (mk 106 [(3, pV 3), (4, pV 4), (5, pV 5), (6, iV r2.2), (9, pV 9), (65, .one (.so [] 65 0 ((r4.1.held ++ r4.1.wait).length))), (67, iV 0)] [(3, [.bx [lC 6 eLock r1.1.held, lC 6 eLock r1.1.wait]]), (4, [.bx [iC r1.2.tx.c, iC r1.2.tx.e, iC r1.2.tx.n, sC r1.2.range.lo, sC r1.2.range.hi, bC r1.2.ex]]), (5, [.bx [lC 6 eLock r2.1.held, lC 6 eLock r2.1.wait]]), (9, [.bx [lC 6 eLock r4.1.held, lC 6 eLock r4.1.wait]]), (65, [lC 6 eLock (r4.1.held ++ r4.1.wait)])]) := of (by
              refine aa_takeM (fuel := 0) (listed' := #[true, true, true, true, true, true, true, true, true]) (l1 := [(3, pV 3), (4, pV 4), (5, pV 5), (6, iV r2.2), (9, pV 9), (65, .one (.so [] 65 0 ((r4.1.held ++ r4.1.wait).length))), (66, iV ((((r4.1.held ++ r4.1.wait).length : Nat) : Int))), (67, iV 0)]) [7] tyOK (by as_aux_lemma => kernel_rfl) (by as_aux_lemma => kernel_rfl) (by as_aux_lemma => kernel_rfl) ?_
              refine aa_done (by as_aux_lemma => kernel_rfl) ?_
              show _ = _; kernel_rfl)
            have k2 : K 3 #[true, true, true, false, true, true, false, false, true] (mk 106 [(3, pV 3), (4, pV 4), (5, pV 5), (6, iV r2.2), (9, pV 9), (59, .one (.so [] 59 0 0)), (61, .one (.so [(9, 0)] 0 0 (((r4.1.held).map eLock).length))), (64, .one (.so [(9, 0)] 0 1 (((r4.1.wait).map eLock).length))), (67, iV 0)] [(3, [.bx [lC 6 eLock r1.1.held, lC 6 eLock r1.1.wait]]), (4, [.bx [iC r1.2.tx.c, iC r1.2.tx.e, iC r1.2.tx.n, sC r1.2.range.lo, sC r1.2.range.hi, bC r1.2.ex]]), (5, [.bx [lC 6 eLock r2.1.held, lC 6 eLock r2.1.wait]]), (9, [.bx [lC 6 eLock r4.1.held, lC 6 eLock r4.1.wait]]), (59, [.sl 6 ([])])]) := of (by
              refine aa_all [3] (by as_aux_lemma => kernel_rfl) rfl ?_
              refine aa_cons ?_ aa_nil
              refine aone_append (listed' := #[true, true, true, true, true, true, false, false, true]) (d := 62) (n := 0) (n' := ((r4.1.held).length)) (bytes := 64) (size := 6) (src := (some ([], 59, 0))) (rows := []) (tx := .one (.so [(9, 0)] 0 0 (((r4.1.held).map eLock).length))) (new := (r4.1.held).map eLock) (rows' := (r4.1.held).map eLock) (st1 := mk 106 [(3, pV 3), (4, pV 4), (5, pV 5), (6, iV r2.2), (9, pV 9), (62, .one (.so [] 62 0 ((r4.1.held).length))), (64, .one (.so [(9, 0)] 0 1 (((r4.1.wait).map eLock).length))), (67, iV 0)] [(3, [.bx [lC 6 eLock r1.1.held, lC 6 eLock r1.1.wait]]), (4, [.bx [iC r1.2.tx.c, iC r1.2.tx.e, iC r1.2.tx.n, sC r1.2.range.lo, sC r1.2.range.hi, bC r1.2.ex]]), (5, [.bx [lC 6 eLock r2.1.held, lC 6 eLock r2.1.wait]]), (9, [.bx [lC 6 eLock r4.1.held, lC 6 eLock r4.1.wait]]), (62, [lC 6 eLock r4.1.held])]) [3, 4, 5, 6, 9, 62, 64, 67] tyOK (by as_aux_lemma => kernel_rfl) (appRows_own (by as_aux_lemma => kernel_rfl) (by simp) (by simp [bC, eLock, eRange, eTx, frzC, iC, sC]) (by simp [noOwn, bC, eLock, eRange, eTx, frzC, iC, sC])) (by simp) (by simpa using c1) (by as_aux_lemma => kernel_rfl) (by simp [bC, eLock, eRange, eTx, frzC, iC, sC]) (by simp) (by as_aux_lemma => kernel_rfl) (by as_aux_lemma => kernel_rfl) (by as_aux_lemma => kernel_rfl) ?_
              refine aa_all [6] (by as_aux_lemma => kernel_rfl) rfl ?_
              refine aa_cons ?_ aa_nil
              refine aone_append (listed' := #[true, true, true, true, true, true, true, false, true]) (d := 65) (n := ((r4.1.held).length)) (n' := ((r4.1.held ++ r4.1.wait).length)) (bytes := 64) (size := 6) (src := (some ([], 62, 0))) (rows := (r4.1.held).map eLock) (tx := .one (.so [(9, 0)] 0 1 (((r4.1.wait).map eLock).length))) (new := (r4.1.wait).map eLock) (rows' := (r4.1.held ++ r4.1.wait).map eLock) (st1 := mk 106 [(3, pV 3), (4, pV 4), (5, pV 5), (6, iV r2.2), (9, pV 9), (65, .one (.so [] 65 0 ((r4.1.held ++ r4.1.wait).length))), (67, iV 0)] [(3, [.bx [lC 6 eLock r1.1.held, lC 6 eLock r1.1.wait]]), (4, [.bx [iC r1.2.tx.c, iC r1.2.tx.e, iC r1.2.tx.n, sC r1.2.range.lo, sC r1.2.range.hi, bC r1.2.ex]]), (5, [.bx [lC 6 eLock r2.1.held, lC 6 eLock r2.1.wait]]), (9, [.bx [lC 6 eLock r4.1.held, lC 6 eLock r4.1.wait]]), (65, [lC 6 eLock (r4.1.held ++ r4.1.wait)])]) [3, 4, 5, 6, 9, 65, 67] tyOK (by as_aux_lemma => kernel_rfl) (appRows_own (by as_aux_lemma => kernel_rfl) (by simp) (by simp [bC, eLock, eRange, eTx, frzC, iC, sC]) (by simp [noOwn, bC, eLock, eRange, eTx, frzC, iC, sC])) (by simp) (by simpa using c2) (by as_aux_lemma => kernel_rfl) (by simp [bC, eLock, eRange, eTx, frzC, iC, sC]) (by simp) (by as_aux_lemma => kernel_rfl) (by as_aux_lemma => kernel_rfl) (by as_aux_lemma => kernel_rfl) ?_
              exact to k1)
            refine aa_takeM (fuel := 7) (listed' := #[false, true, true, false, false, false, false, false, false]) (l1 := [(3, pV 3), (4, pV 4), (5, pV 5), (6, iV r2.2), (9, pV 9), (61, .one (.so [(9, 0)] 0 0 (((r4.1.held).map eLock).length)))]) [1, 2] tyOK (by as_aux_lemma => kernel_rfl) (by as_aux_lemma => kernel_rfl) (by as_aux_lemma => kernel_rfl) ?_
            refine aa_takePM (fuel := 5) (listed' := #[false, true, true, false, true, false, false, false, true]) (l1 := [(3, pV 3), (4, pV 4), (5, pV 5), (6, iV r2.2), (9, pV 9), (61, .one (.so [(9, 0)] 0 0 (((r4.1.held).map eLock).length))), (63, .one (.pl [(9, 0)] 0 1)), (67, iV 0)]) [4, 8] tyOK (by as_aux_lemma => kernel_rfl) (by as_aux_lemma => kernel_rfl) (by as_aux_lemma => kernel_rfl) ?_
            refine aa_all [0, 5] (by as_aux_lemma => kernel_rfl) rfl ?_
            refine aa_cons ?_ ?_
            · refine aone_any (listed' := #[true, true, true, false, true, false, false, false, true]) (st1 := mk 106 [(3, pV 3), (4, pV 4), (5, pV 5), (6, iV r2.2), (9, pV 9), (59, .one (.so [] 59 0 0)), (61, .one (.so [(9, 0)] 0 0 (((r4.1.held).map eLock).length))), (63, .one (.pl [(9, 0)] 0 1)), (67, iV 0)] [(3, [.bx [lC 6 eLock r1.1.held, lC 6 eLock r1.1.wait]]), (4, [.bx [iC r1.2.tx.c, iC r1.2.tx.e, iC r1.2.tx.n, sC r1.2.range.lo, sC r1.2.range.hi, bC r1.2.ex]]), (5, [.bx [lC 6 eLock r2.1.held, lC 6 eLock r2.1.wait]]), (9, [.bx [lC 6 eLock r4.1.held, lC 6 eLock r4.1.wait]]), (59, [.sl 6 ([])])]) [3, 4, 5, 6, 9, 59, 61, 63, 67] tyOK (by as_aux_lemma => kernel_rfl) (by as_aux_lemma => kernel_rfl) ?_
              refine aa_all [3, 5] (by as_aux_lemma => kernel_rfl) rfl ?_
              refine aa_cons ?_ ?_
              · refine aone_append (listed' := #[true, true, true, true, true, false, false, false, true]) (d := 62) (n := 0) (n' := ((r4.1.held).length)) (bytes := 64) (size := 6) (src := (some ([], 59, 0))) (rows := []) (tx := .one (.so [(9, 0)] 0 0 (((r4.1.held).map eLock).length))) (new := (r4.1.held).map eLock) (rows' := (r4.1.held).map eLock) (st1 := mk 106 [(3, pV 3), (4, pV 4), (5, pV 5), (6, iV r2.2), (9, pV 9), (62, .one (.so [] 62 0 ((r4.1.held).length))), (63, .one (.pl [(9, 0)] 0 1)), (67, iV 0)] [(3, [.bx [lC 6 eLock r1.1.held, lC 6 eLock r1.1.wait]]), (4, [.bx [iC r1.2.tx.c, iC r1.2.tx.e, iC r1.2.tx.n, sC r1.2.range.lo, sC r1.2.range.hi, bC r1.2.ex]]), (5, [.bx [lC 6 eLock r2.1.held, lC 6 eLock r2.1.wait]]), (9, [.bx [lC 6 eLock r4.1.held, lC 6 eLock r4.1.wait]]), (62, [lC 6 eLock r4.1.held])]) [3, 4, 5, 6, 9, 62, 63, 67] tyOK (by as_aux_lemma => kernel_rfl) (appRows_own (by as_aux_lemma => kernel_rfl) (by simp) (by simp [bC, eLock, eRange, eTx, frzC, iC, sC]) (by simp [noOwn, bC, eLock, eRange, eTx, frzC, iC, sC])) (by simp) (by simpa using c1) (by as_aux_lemma => kernel_rfl) (by simp [bC, eLock, eRange, eTx, frzC, iC, sC]) (by simp) (by as_aux_lemma => kernel_rfl) (by as_aux_lemma => kernel_rfl) (by as_aux_lemma => kernel_rfl) ?_
                refine aa_takeM (fuel := 2) (listed' := #[true, true, true, true, true, true, false, false, true]) (l1 := [(3, pV 3), (4, pV 4), (5, pV 5), (6, iV r2.2), (9, pV 9), (62, .one (.so [] 62 0 ((r4.1.held).length))), (64, .one (.so [(9, 0)] 0 1 (((r4.1.wait).map eLock).length))), (67, iV 0)]) [5] tyOK (by as_aux_lemma => kernel_rfl) (by as_aux_lemma => kernel_rfl) (by as_aux_lemma => kernel_rfl) ?_
                refine aa_all [6] (by as_aux_lemma => kernel_rfl) rfl ?_
                refine aa_cons ?_ aa_nil
                refine aone_append (listed' := #[true, true, true, true, true, true, true, false, true]) (d := 65) (n := ((r4.1.held).length)) (n' := ((r4.1.held ++ r4.1.wait).length)) (bytes := 64) (size := 6) (src := (some ([], 62, 0))) (rows := (r4.1.held).map eLock) (tx := .one (.so [(9, 0)] 0 1 (((r4.1.wait).map eLock).length))) (new := (r4.1.wait).map eLock) (rows' := (r4.1.held ++ r4.1.wait).map eLock) (st1 := mk 106 [(3, pV 3), (4, pV 4), (5, pV 5), (6, iV r2.2), (9, pV 9), (65, .one (.so [] 65 0 ((r4.1.held ++ r4.1.wait).length))), (67, iV 0)] [(3, [.bx [lC 6 eLock r1.1.held, lC 6 eLock r1.1.wait]]), (4, [.bx [iC r1.2.tx.c, iC r1.2.tx.e, iC r1.2.tx.n, sC r1.2.range.lo, sC r1.2.range.hi, bC r1.2.ex]]), (5, [.bx [lC 6 eLock r2.1.held, lC 6 eLock r2.1.wait]]), (9, [.bx [lC 6 eLock r4.1.held, lC 6 eLock r4.1.wait]]), (65, [lC 6 eLock (r4.1.held ++ r4.1.wait)])]) [3, 4, 5, 6, 9, 65, 67] tyOK (by as_aux_lemma => kernel_rfl) (appRows_own (by as_aux_lemma => kernel_rfl) (by simp) (by simp [bC, eLock, eRange, eTx, frzC, iC, sC]) (by simp [noOwn, bC, eLock, eRange, eTx, frzC, iC, sC])) (by simp) (by simpa using c2) (by as_aux_lemma => kernel_rfl) (by simp [bC, eLock, eRange, eTx, frzC, iC, sC]) (by simp) (by as_aux_lemma => kernel_rfl) (by as_aux_lemma => kernel_rfl) (by as_aux_lemma => kernel_rfl) ?_
                exact to k1
              refine aa_cons ?_ aa_nil
              refine aone_anyM (listed' := #[true, true, true, false, true, true, false, false, true]) (l1 := [(3, pV 3), (4, pV 4), (5, pV 5), (6, iV r2.2), (9, pV 9), (59, .one (.so [] 59 0 0)), (61, .one (.so [(9, 0)] 0 0 (((r4.1.held).map eLock).length))), (64, .one (.so [(9, 0)] 0 1 (((r4.1.wait).map eLock).length))), (67, iV 0)]) tyOK (by as_aux_lemma => kernel_rfl) (by as_aux_lemma => kernel_rfl) ?_
              exact to k2
            refine aa_cons ?_ aa_nil
            refine aone_anyM (listed' := #[false, true, true, false, true, true, false, false, true]) (l1 := [(3, pV 3), (4, pV 4), (5, pV 5), (6, iV r2.2), (9, pV 9), (61, .one (.so [(9, 0)] 0 0 (((r4.1.held).map eLock).length))), (64, .one (.so [(9, 0)] 0 1 (((r4.1.wait).map eLock).length))), (67, iV 0)]) tyOK (by as_aux_lemma => kernel_rfl) (by as_aux_lemma => kernel_rfl) ?_
            refine aa_all [0] (by as_aux_lemma => kernel_rfl) rfl ?_
            refine aa_cons ?_ aa_nil
            refine aone_any (listed' := #[true, true, true, false, true, true, false, false, true]) (st1 := mk 106 [(3, pV 3), (4, pV 4), (5, pV 5), (6, iV r2.2), (9, pV 9), (59, .one (.so [] 59 0 0)), (61, .one (.so [(9, 0)] 0 0 (((r4.1.held).map eLock).length))), (64, .one (.so [(9, 0)] 0 1 (((r4.1.wait).map eLock).length))), (67, iV 0)] [(3, [.bx [lC 6 eLock r1.1.held, lC 6 eLock r1.1.wait]]), (4, [.bx [iC r1.2.tx.c, iC r1.2.tx.e, iC r1.2.tx.n, sC r1.2.range.lo, sC r1.2.range.hi, bC r1.2.ex]]), (5, [.bx [lC 6 eLock r2.1.held, lC 6 eLock r2.1.wait]]), (9, [.bx [lC 6 eLock r4.1.held, lC 6 eLock r4.1.wait]]), (59, [.sl 6 ([])])]) [3, 4, 5, 6, 9, 59, 61, 64, 67] tyOK (by as_aux_lemma => kernel_rfl) (by as_aux_lemma => kernel_rfl) ?_
            exact to k2
          obtain ⟨y1, h, ky1, zy1⟩ := bndS_e h
          refine a_joinT (ι := Unit) (fun j => mk 106 [(3, pV 3), (4, pV 4), (5, pV 5), (6, iV r2.2), (9, pV 9)] [(3, [.bx [lC 6 eLock r1.1.held, lC 6 eLock r1.1.wait]]), (4, [.bx [iC r1.2.tx.c, iC r1.2.tx.e, iC r1.2.tx.n, sC r1.2.range.lo, sC r1.2.range.hi, bC r1.2.ex]]), (5, [.bx [lC 6 eLock r2.1.held, lC 6 eLock r2.1.wait]]), (9, [.bx [lC 6 eLock r4.1.held, lC 6 eLock r4.1.wait]])]) (fun j => y1 = .inl j) ?_ ?_
          · refine a_block ?_
            refine a_loopT (Bw_FnLocks_1 r1 r4) (fun s1 => mk 106 [(3, pV 3), (4, pV 4), (5, pV 5), (6, iV r2.2), (9, pV 9), (65, .one (.so [] 65 0 ((r4.1.held ++ r4.1.wait).length))), (66, iV ((((r4.1.held ++ r4.1.wait).length : Nat) : Int))), (67, iV s1)] [(3, [.bx [lC 6 eLock r1.1.held, lC 6 eLock r1.1.wait]]), (4, [.bx [iC r1.2.tx.c, iC r1.2.tx.e, iC r1.2.tx.n, sC r1.2.range.lo, sC r1.2.range.hi, bC r1.2.ex]]), (5, [.bx [lC 6 eLock r2.1.held, lC 6 eLock r2.1.wait]]), (9, [.bx [lC 6 eLock r4.1.held, lC 6 eLock r4.1.wait]]), (65, [lC 6 eLock (r4.1.held ++ r4.1.wait)])]) 0 h ?_ ?_
            · exact imp_keepTo [3, 4, 5, 6, 9, 65, 66, 67] (by as_aux_lemma => kernel_rfl) (imp_done rfl)
            intro s1 y2 h zy2
            unfold Bw_FnLocks_1 at h
            refine a_seq ?_
            refine a_run [3, 4, 5, 6, 9, 65, 66, 67, 68] tyOK (st1 := mk 106 [(3, pV 3), (4, pV 4), (5, pV 5), (6, iV r2.2), (9, pV 9), (65, .one (.so [] 65 0 ((r4.1.held ++ r4.1.wait).length))), (66, iV ((((r4.1.held ++ r4.1.wait).length : Nat) : Int))), (67, iV s1), (68, bV (decide (s1 < ((((r4.1.held ++ r4.1.wait).length : Nat) : Int)))))] [(3, [.bx [lC 6 eLock r1.1.held, lC 6 eLock r1.1.wait]]), (4, [.bx [iC r1.2.tx.c, iC r1.2.tx.e, iC r1.2.tx.n, sC r1.2.range.lo, sC r1.2.range.hi, bC r1.2.ex]]), (5, [.bx [lC 6 eLock r2.1.held, lC 6 eLock r2.1.wait]]), (9, [.bx [lC 6 eLock r4.1.held, lC 6 eLock r4.1.wait]]), (65, [lC 6 eLock (r4.1.held ++ r4.1.wait)])]) (by as_aux_lemma => kernel_rfl) ?_
            refine a_seq ?_
            refine a_cond (b := decide (s1 < ((((r4.1.held ++ r4.1.wait).length : Nat) : Int)))) (by as_aux_lemma => kernel_rfl) (fun h4 => ?_) (fun h4 => ?_)
            · replace h := cT h4 h
              refine a_skip ?_
              refine a_seq ?_
              refine a_block ?_
              refine a_seq ?_
              refine a_ops [0, 1, 2, 3] (by as_aux_lemma => kernel_rfl) ?_
              obtain ⟨x1, ex1, h⟩ := bnd_e h
              refine ao_indexOwn (d := 69) (size := 6) (n0 := ((r4.1.held ++ r4.1.wait).length)) (n := s1) (p := [(65, 0)]) (rows := (r4.1.held ++ r4.1.wait).map eLock) (st1 := mk 106 [(3, pV 3), (4, pV 4), (5, pV 5), (6, iV r2.2), (9, pV 9), (65, .one (.so [] 65 0 ((r4.1.held ++ r4.1.wait).length))), (66, iV ((((r4.1.held ++ r4.1.wait).length : Nat) : Int))), (67, iV s1), (69, .one (.pl [(65, 0)] ((s1).toNat) 0))] [(3, [.bx [lC 6 eLock r1.1.held, lC 6 eLock r1.1.wait]]), (4, [.bx [iC r1.2.tx.c, iC r1.2.tx.e, iC r1.2.tx.n, sC r1.2.range.lo, sC r1.2.range.hi, bC r1.2.ex]]), (5, [.bx [lC 6 eLock r2.1.held, lC 6 eLock r2.1.wait]]), (9, [.bx [lC 6 eLock r4.1.held, lC 6 eLock r4.1.wait]]), (65, [lC 6 eLock (r4.1.held ++ r4.1.wait)])]) [iC x1.tx.c, iC x1.tx.e, iC x1.tx.n, sC x1.range.lo, sC x1.range.hi, bC x1.ex] [3, 4, 5, 6, 9, 65, 66, 67, 69] tyOK (by as_aux_lemma => kernel_rfl) (by simpa using getI_both ex1) (by exact get_map (en := eLock) (getI_e ex1).2) (by as_aux_lemma => kernel_rfl) (by as_aux_lemma => kernel_rfl) ?_
              refine ao_P (d := 70) (op := .load 47 (.tmp 69)) (tv := .agg [.c (iC x1.tx.c), .c (iC x1.tx.e), .c (iC x1.tx.n), .c (sC x1.range.lo), .c (sC x1.range.hi), .c (bC x1.ex)]) (st1 := mk 106 [(3, pV 3), (4, pV 4), (5, pV 5), (6, iV r2.2), (9, pV 9), (65, .one (.so [] 65 0 ((r4.1.held ++ r4.1.wait).length))), (66, iV ((((r4.1.held ++ r4.1.wait).length : Nat) : Int))), (67, iV s1), (70, .agg [.c (iC x1.tx.c), .c (iC x1.tx.e), .c (iC x1.tx.n), .c (sC x1.range.lo), .c (sC x1.range.hi), .c (bC x1.ex)])] [(3, [.bx [lC 6 eLock r1.1.held, lC 6 eLock r1.1.wait]]), (4, [.bx [iC r1.2.tx.c, iC r1.2.tx.e, iC r1.2.tx.n, sC r1.2.range.lo, sC r1.2.range.hi, bC r1.2.ex]]), (5, [.bx [lC 6 eLock r2.1.held, lC 6 eLock r2.1.wait]]), (9, [.bx [lC 6 eLock r4.1.held, lC 6 eLock r4.1.wait]]), (65, [lC 6 eLock (r4.1.held ++ r4.1.wait)])]) [3, 4, 5, 6, 9, 65, 66, 67, 70] tyOK (by as_aux_lemma => kernel_rfl) (stepP_loadOwn (size := 6) (n := ((s1).toNat)) (f := 0) (agg := true) (p := [(65, 0)]) (rows := (r4.1.held ++ r4.1.wait).map eLock) [iC x1.tx.c, iC x1.tx.e, iC x1.tx.n, sC x1.range.lo, sC x1.range.hi, bC x1.ex] (by as_aux_lemma => kernel_rfl) (get_map (en := eLock) (getI_e ex1).2) (by as_aux_lemma => kernel_rfl) (by as_aux_lemma => kernel_rfl)) (by as_aux_lemma => kernel_rfl) ?_
              refine ao_some [2, 3] [] [3, 4, 5, 6, 9, 12, 65, 66, 67] tyOK (st1 := mk 106 [(3, pV 3), (4, pV 4), (5, pV 5), (6, iV r2.2), (9, pV 9), (12, pV 12), (65, .one (.so [] 65 0 ((r4.1.held ++ r4.1.wait).length))), (66, iV ((((r4.1.held ++ r4.1.wait).length : Nat) : Int))), (67, iV s1)] [(3, [.bx [lC 6 eLock r1.1.held, lC 6 eLock r1.1.wait]]), (4, [.bx [iC r1.2.tx.c, iC r1.2.tx.e, iC r1.2.tx.n, sC r1.2.range.lo, sC r1.2.range.hi, bC r1.2.ex]]), (5, [.bx [lC 6 eLock r2.1.held, lC 6 eLock r2.1.wait]]), (9, [.bx [lC 6 eLock r4.1.held, lC 6 eLock r4.1.wait]]), (12, [.bx [iC x1.tx.c, iC x1.tx.e, iC x1.tx.n, sC x1.range.lo, sC x1.range.hi, bC x1.ex]]), (65, [lC 6 eLock (r4.1.held ++ r4.1.wait)])]) (by as_aux_lemma => kernel_rfl) ?_
              refine ao_nil ?_
              refine a_seq ?_
              refine a_run [3, 4, 5, 6, 9, 65, 66, 67, 75] tyOK (st1 := mk 106 [(3, pV 3), (4, pV 4), (5, pV 5), (6, iV r2.2), (9, pV 9), (65, .one (.so [] 65 0 ((r4.1.held ++ r4.1.wait).length))), (66, iV ((((r4.1.held ++ r4.1.wait).length : Nat) : Int))), (67, iV s1), (75, bV (((x1.tx.c == r1.2.tx.c) && ((x1.tx.e == r1.2.tx.e) && ((x1.tx.n == r1.2.tx.n) && true)))))] [(3, [.bx [lC 6 eLock r1.1.held, lC 6 eLock r1.1.wait]]), (4, [.bx [iC r1.2.tx.c, iC r1.2.tx.e, iC r1.2.tx.n, sC r1.2.range.lo, sC r1.2.range.hi, bC r1.2.ex]]), (5, [.bx [lC 6 eLock r2.1.held, lC 6 eLock r2.1.wait]]), (9, [.bx [lC 6 eLock r4.1.held, lC 6 eLock r4.1.wait]]), (65, [lC 6 eLock (r4.1.held ++ r4.1.wait)])]) (by as_aux_lemma => kernel_rfl) ?_
              refine a_cond (b := ((x1.tx.c == r1.2.tx.c) && ((x1.tx.e == r1.2.tx.e) && ((x1.tx.n == r1.2.tx.n) && true)))) (by as_aux_lemma => kernel_rfl) (fun h5 => ?_) (fun h5 => ?_)
              · replace h := cT h5 h
                refine a_seq ?_
                refine a_run [2] tyOK (st1 := mk 106 [(2, bV false)] []) (by as_aux_lemma => kernel_rfl) ?_
                refine a_ret ?_
                obtain rfl := Option.some.inj h
                obtain rfl := zy2 _ rfl
                obtain rfl := zy1 _ rfl
                exact end_eq (res' := bV false) (by as_aux_lemma => kernel_rfl) (by first | rfl | simp)
              · replace h := cF h5 h
                refine a_skip ?_
                refine a_runM tyOK (l1 := [(3, pV 3), (4, pV 4), (5, pV 5), (6, iV r2.2), (9, pV 9), (65, .one (.so [] 65 0 ((r4.1.held ++ r4.1.wait).length))), (66, iV ((((r4.1.held ++ r4.1.wait).length : Nat) : Int))), (67, iV (IntKind.wrap .i64 (s1 + 1)))]) (by as_aux_lemma => kernel_rfl) ?_
                obtain rfl := Option.some.inj h
                show ∃ _, _ ∧ Imp _ _ _
                refine ⟨_, rfl, ?_⟩
                exact imp_keepTo [3, 4, 5, 6, 9, 65, 66, 67] (by as_aux_lemma => kernel_rfl) (imp_done rfl)
            · replace h := cF h4 h
              refine a_exit ?_
              obtain rfl := Option.some.inj h
              obtain rfl := zy2 _ rfl
              show ∃ _, _ ∧ Imp _ _ _
              refine ⟨_, rfl, ?_⟩
              exact imp_keepTo [3, 4, 5, 6, 9] (by as_aux_lemma => kernel_rfl) (imp_done rfl)
          intro j1 hj1
          replace h := ky1 _ hj1
          refine a_seq ?_
          obtain ⟨y3, h, ky3⟩ := bndJ_e h
          refine a_joinT (ι := Bool) (fun j => mk 106 [(2, bV j)] []) (fun j => y3 = j) ?_ ?_
          · refine a_ops [0, 1, 2, 3, 4, 5, 6, 7, 8, 9, 10, 11, 12, 13, 14, 15, 16, 17, 18, 19, 20, 21, 22, 23, 24, 25, 26, 27, 28, 29] (by as_aux_lemma => kernel_rfl) ?_
            refine ao_some [0] [1, 2, 3, 4, 5, 6, 7, 8, 9, 10, 11, 12, 13, 14, 15, 16, 17, 18, 19, 20, 21, 22, 23, 24, 25, 26, 27, 28, 29] [3, 4, 5, 6, 9, 77] tyOK (st1 := mk 106 [(3, pV 3), (4, pV 4), (5, pV 5), (6, iV r2.2), (9, pV 9), (77, .agg [.so [(5, 0)] 0 0 (((r2.1.held).map eLock).length), .so [(5, 0)] 0 1 (((r2.1.wait).map eLock).length)])] [(3, [.bx [lC 6 eLock r1.1.held, lC 6 eLock r1.1.wait]]), (4, [.bx [iC r1.2.tx.c, iC r1.2.tx.e, iC r1.2.tx.n, sC r1.2.range.lo, sC r1.2.range.hi, bC r1.2.ex]]), (5, [.bx [lC 6 eLock r2.1.held, lC 6 eLock r2.1.wait]]), (9, [.bx [lC 6 eLock r4.1.held, lC 6 eLock r4.1.wait]])]) (by as_aux_lemma => kernel_rfl) ?_
            obtain ⟨r5, er5, h⟩ := bnd_e h
            refine ao_lend (f := 21) (d := 78) (A := [.agg [.so [(5, 0)] 0 0 (((r2.1.held).map eLock).length), .so [(5, 0)] 0 1 (((r2.1.wait).map eLock).length)]]) (A' := [.agg [.c (lC 6 eLock r2.1.held), .c (lC 6 eLock r2.1.wait)]]) (st1 := mk 106 [(3, pV 3), (4, pV 4), (5, pV 5), (6, iV r2.2), (9, pV 9), (78, bV r5)] [(3, [.bx [lC 6 eLock r1.1.held, lC 6 eLock r1.1.wait]]), (4, [.bx [iC r1.2.tx.c, iC r1.2.tx.e, iC r1.2.tx.n, sC r1.2.range.lo, sC r1.2.range.hi, bC r1.2.ex]]), (5, [.bx [lC 6 eLock r2.1.held, lC 6 eLock r2.1.wait]]), (9, [.bx [lC 6 eLock r4.1.held, lC 6 eLock r4.1.wait]])]) [3, 4, 5, 6, 9, 78] (k_i_LocksOk r2.1 r5 er5) Try.call21 (by as_aux_lemma => kernel_rfl) (.cons (.agg (.cons (lend_so (by as_aux_lemma => kernel_rfl) (by simp)) (.cons (lend_so (by as_aux_lemma => kernel_rfl) (by simp)) .nil))) .nil) (by as_aux_lemma => kernel_rfl) (clean_nil) (by as_aux_lemma => kernel_rfl) (by as_aux_lemma => kernel_rfl) ?_
            refine ao_someM [2] [3, 4, 5, 6, 7, 8, 9, 10, 11, 12, 13, 14, 15, 16, 17, 18, 19, 20, 21, 22, 23, 24, 25, 26, 27, 28, 29] tyOK (l1 := [(3, pV 3), (4, pV 4), (5, pV 5), (6, iV r2.2), (9, pV 9), (79, bV r5)]) (by as_aux_lemma => kernel_rfl) ?_
            rcases Bool.eq_false_or_eq_true (r5) with h6 | h6
            · replace h := cT h6 h
              refine ao_saysM (k := 79) (t := bV r5) (t' := bV true) (l1 := [(3, pV 3), (4, pV 4), (5, pV 5), (6, iV r2.2), (9, pV 9), (79, bV true)]) (by as_aux_lemma => kernel_rfl) (by rw [h6]) (by as_aux_lemma => kernel_rfl) ?_
              refine ao_someM [3] [4, 5, 6, 7, 8, 9, 10, 11, 12, 13, 14, 15, 16, 17, 18, 19, 20, 21, 22, 23, 24, 25, 26, 27, 28, 29] tyOK (l1 := [(3, pV 3), (4, pV 4), (5, pV 5), (6, iV r2.2), (79, bV true), (80, .agg [.so [(9, 0)] 0 0 (((r4.1.held).map eLock).length), .so [(9, 0)] 0 1 (((r4.1.wait).map eLock).length)])]) (by as_aux_lemma => kernel_rfl) ?_
              obtain ⟨r6, er6, h⟩ := bnd_e h
              refine ao_lend (f := 21) (d := 81) (A := [.agg [.so [(9, 0)] 0 0 (((r4.1.held).map eLock).length), .so [(9, 0)] 0 1 (((r4.1.wait).map eLock).length)]]) (A' := [.agg [.c (lC 6 eLock r4.1.held), .c (lC 6 eLock r4.1.wait)]]) (st1 := mk 106 [(3, pV 3), (4, pV 4), (5, pV 5), (6, iV r2.2), (79, bV true), (81, bV r6)] [(3, [.bx [lC 6 eLock r1.1.held, lC 6 eLock r1.1.wait]]), (4, [.bx [iC r1.2.tx.c, iC r1.2.tx.e, iC r1.2.tx.n, sC r1.2.range.lo, sC r1.2.range.hi, bC r1.2.ex]]), (5, [.bx [lC 6 eLock r2.1.held, lC 6 eLock r2.1.wait]])]) [3, 4, 5, 6, 79, 81] (k_i_LocksOk r4.1 r6 er6) Try.call21 (by as_aux_lemma => kernel_rfl) (.cons (.agg (.cons (lend_so (by as_aux_lemma => kernel_rfl) (by simp)) (.cons (lend_so (by as_aux_lemma => kernel_rfl) (by simp)) .nil))) .nil) (by as_aux_lemma => kernel_rfl) (clean_nil) (by as_aux_lemma => kernel_rfl) (by as_aux_lemma => kernel_rfl) ?_
              refine ao_someM [5, 6] [7, 8, 9, 10, 11, 12, 13, 14, 15, 16, 17, 18, 19, 20, 21, 22, 23, 24, 25, 26, 27, 28, 29] tyOK (l1 := [(3, pV 3), (4, pV 4), (5, pV 5), (6, iV r2.2), (83, bV r6)]) (by as_aux_lemma => kernel_rfl) ?_
              rcases Bool.eq_false_or_eq_true (r6) with h7 | h7
              · replace h := cT h7 h
                refine ao_saysM (k := 83) (t := bV r6) (t' := bV true) (l1 := [(3, pV 3), (4, pV 4), (5, pV 5), (6, iV r2.2), (83, bV true)]) (by as_aux_lemma => kernel_rfl) (by rw [h7]) (by as_aux_lemma => kernel_rfl) ?_
                refine ao_someM [7, 8, 9, 10, 11, 12, 13] [14, 15, 16, 17, 18, 19, 20, 21, 22, 23, 24, 25, 26, 27, 28, 29] tyOK (l1 := [(3, pV 3), (4, pV 4), (6, iV r2.2), (83, bV true), (84, .agg [.so [(5, 0)] 0 0 (((r2.1.held).map eLock).length), .so [(5, 0)] 0 1 (((r2.1.wait).map eLock).length)]), (86, .agg [.c (iC r1.2.tx.c), .c (iC r1.2.tx.e), .c (iC r1.2.tx.n)]), (88, .agg [.c (sC r1.2.range.lo), .c (sC r1.2.range.hi)]), (90, bV r1.2.ex)]) (by as_aux_lemma => kernel_rfl) ?_
                obtain ⟨r7, er7, h⟩ := bnd_e h
                refine ao_lend (f := 22) (d := 91) (A := [.agg [.so [(5, 0)] 0 0 (((r2.1.held).map eLock).length), .so [(5, 0)] 0 1 (((r2.1.wait).map eLock).length)], .agg [.c (iC r1.2.tx.c), .c (iC r1.2.tx.e), .c (iC r1.2.tx.n)], .agg [.c (sC r1.2.range.lo), .c (sC r1.2.range.hi)], bV r1.2.ex]) (A' := [.agg [.c (lC 6 eLock r2.1.held), .c (lC 6 eLock r2.1.wait)], .agg [.c (iC r1.2.tx.c), .c (iC r1.2.tx.e), .c (iC r1.2.tx.n)], .agg [.c (sC r1.2.range.lo), .c (sC r1.2.range.hi)], bV r1.2.ex]) (st1 := mk 106 [(3, pV 3), (4, pV 4), (6, iV r2.2), (83, bV true), (91, bV r7)] [(3, [.bx [lC 6 eLock r1.1.held, lC 6 eLock r1.1.wait]]), (4, [.bx [iC r1.2.tx.c, iC r1.2.tx.e, iC r1.2.tx.n, sC r1.2.range.lo, sC r1.2.range.hi, bC r1.2.ex]])]) [3, 4, 6, 83, 91] (k_i_LockHas r2.1 r1.2.tx r1.2.range r1.2.ex r7 er7) Try.call22 (by as_aux_lemma => kernel_rfl) (.cons (.agg (.cons (lend_so (by as_aux_lemma => kernel_rfl) (by simp)) (.cons (lend_so (by as_aux_lemma => kernel_rfl) (by simp)) .nil))) (.cons (.agg (.cons (.same rfl) (.cons (.same rfl) (.cons (.same rfl) .nil)))) (.cons (.agg (.cons (.same rfl) (.cons (.same rfl) .nil))) (.cons (.one (.same rfl)) .nil)))) (by as_aux_lemma => kernel_rfl) (clean_nil) (by as_aux_lemma => kernel_rfl) (by as_aux_lemma => kernel_rfl) ?_
                refine ao_someM [15, 16, 17] [18, 19, 20, 21, 22, 23, 24, 25, 26, 27, 28, 29] tyOK (l1 := [(3, pV 3), (4, pV 4), (83, bV true), (91, bV r7), (94, bV ((r2.2 == 0)))]) (by as_aux_lemma => kernel_rfl) ?_
                rcases Bool.eq_false_or_eq_true ((r2.2 == 0)) with h8 | h8
                · replace h := cT h8 h
                  refine ao_saysM (k := 94) (t := bV ((r2.2 == 0))) (t' := bV true) (l1 := [(3, pV 3), (4, pV 4), (83, bV true), (91, bV r7), (94, bV true)]) (by as_aux_lemma => kernel_rfl) (by rw [h8]) (by as_aux_lemma => kernel_rfl) ?_
                  refine ao_some [18, 19, 20, 21, 22, 23, 24, 25, 26, 27, 28, 29] [] [2] tyOK (st1 := mk 106 [(2, bV ((r7 == true)))] []) (by as_aux_lemma => kernel_rfl) ?_
                  refine ao_nil ?_
                  obtain rfl := Option.some.inj h
                  show ∃ _, _ ∧ Imp _ _ _
                  refine ⟨_, rfl, ?_⟩
                  exact imp_keepTo [2] (by as_aux_lemma => kernel_rfl) (imp_done rfl)
                · replace h := cF h8 h
                  refine ao_saysM (k := 94) (t := bV ((r2.2 == 0))) (t' := bV false) (l1 := [(3, pV 3), (4, pV 4), (83, bV true), (91, bV r7), (94, bV false)]) (by as_aux_lemma => kernel_rfl) (by rw [h8]) (by as_aux_lemma => kernel_rfl) ?_
                  refine ao_some [18, 19, 20, 21, 22, 23, 24] [25, 26, 27, 28, 29] [83, 91, 94, 95, 97, 99, 101] tyOK (st1 := mk 106 [(83, bV true), (91, bV r7), (94, bV false), (95, .agg [.so [(3, 0)] 0 0 (((r1.1.held).map eLock).length), .so [(3, 0)] 0 1 (((r1.1.wait).map eLock).length)]), (97, .agg [.c (iC r1.2.tx.c), .c (iC r1.2.tx.e), .c (iC r1.2.tx.n)]), (99, .agg [.c (sC r1.2.range.lo), .c (sC r1.2.range.hi)]), (101, bV r1.2.ex)] [(3, [.bx [lC 6 eLock r1.1.held, lC 6 eLock r1.1.wait]])]) (by as_aux_lemma => kernel_rfl) ?_
                  obtain ⟨r8, er8, h⟩ := bnd_e h
                  refine ao_lend (f := 23) (d := 102) (A := [.agg [.so [(3, 0)] 0 0 (((r1.1.held).map eLock).length), .so [(3, 0)] 0 1 (((r1.1.wait).map eLock).length)], .agg [.c (iC r1.2.tx.c), .c (iC r1.2.tx.e), .c (iC r1.2.tx.n)], .agg [.c (sC r1.2.range.lo), .c (sC r1.2.range.hi)], bV r1.2.ex]) (A' := [.agg [.c (lC 6 eLock r1.1.held), .c (lC 6 eLock r1.1.wait)], .agg [.c (iC r1.2.tx.c), .c (iC r1.2.tx.e), .c (iC r1.2.tx.n)], .agg [.c (sC r1.2.range.lo), .c (sC r1.2.range.hi)], bV r1.2.ex]) (st1 := mk 106 [(83, bV true), (91, bV r7), (94, bV false), (102, bV r8)] []) [83, 91, 94, 102] (k_s_LockHas r1.1 r1.2.tx r1.2.range r1.2.ex r8 er8) Try.call23 (by as_aux_lemma => kernel_rfl) (.cons (.agg (.cons (lend_so (by as_aux_lemma => kernel_rfl) (by simp)) (.cons (lend_so (by as_aux_lemma => kernel_rfl) (by simp)) .nil))) (.cons (.agg (.cons (.same rfl) (.cons (.same rfl) (.cons (.same rfl) .nil)))) (.cons (.agg (.cons (.same rfl) (.cons (.same rfl) .nil))) (.cons (.one (.same rfl)) .nil)))) (by as_aux_lemma => kernel_rfl) (clean_nil) (by as_aux_lemma => kernel_rfl) (by as_aux_lemma => kernel_rfl) ?_
                  refine ao_someM [26, 27, 28, 29] [] tyOK (l1 := [(2, bV ((r7 == r8)))]) (by as_aux_lemma => kernel_rfl) ?_
                  refine ao_nil ?_
                  obtain rfl := Option.some.inj h
                  show ∃ _, _ ∧ Imp _ _ _
                  refine ⟨_, rfl, ?_⟩
                  exact imp_keepTo [2] (by as_aux_lemma => kernel_rfl) (imp_done rfl)
              · replace h := cF h7 h
                refine ao_saysM (k := 83) (t := bV r6) (t' := bV false) (l1 := [(3, pV 3), (4, pV 4), (5, pV 5), (6, iV r2.2), (83, bV false)]) (by as_aux_lemma => kernel_rfl) (by rw [h7]) (by as_aux_lemma => kernel_rfl) ?_
                refine ao_some [7, 8, 9, 10, 11, 12, 13, 14, 15, 16, 17, 18, 19, 20, 21, 22, 23, 24, 25, 26, 27, 28, 29] [] [2] tyOK (st1 := mk 106 [(2, bV false)] []) (by as_aux_lemma => kernel_rfl) ?_
                refine ao_nil ?_
                obtain rfl := Option.some.inj h
                show ∃ _, _ ∧ Imp _ _ _
                refine ⟨_, rfl, ?_⟩
                exact imp_keepTo [2] (by as_aux_lemma => kernel_rfl) (imp_done rfl)
            · replace h := cF h6 h
              refine ao_saysM (k := 79) (t := bV r5) (t' := bV false) (l1 := [(3, pV 3), (4, pV 4), (5, pV 5), (6, iV r2.2), (9, pV 9), (79, bV false)]) (by as_aux_lemma => kernel_rfl) (by rw [h6]) (by as_aux_lemma => kernel_rfl) ?_
              refine ao_some [3, 4, 5, 6, 7, 8, 9, 10, 11, 12, 13, 14, 15, 16, 17, 18, 19, 20, 21, 22, 23, 24, 25, 26, 27, 28, 29] [] [2] tyOK (st1 := mk 106 [(2, bV false)] []) (by as_aux_lemma => kernel_rfl) ?_
              refine ao_nil ?_
              obtain rfl := Option.some.inj h
              show ∃ _, _ ∧ Imp _ _ _
              refine ⟨_, rfl, ?_⟩
              exact imp_keepTo [2] (by as_aux_lemma => kernel_rfl) (imp_done rfl)
          intro j2 hj2
          replace h := ky3 _ hj2
          refine a_ret ?_
          obtain rfl := Option.some.inj h
          exact end_eq (res' := bV j2) (by as_aux_lemma => kernel_rfl) (by first | rfl | simp)

end Go.Proofs.Ytagoajkiccgmjaa
namespace Go.Proofs.Ytagoajkiccgmjaa
open Go.Mv Go.RowKit

/-- What a draw reads from is in order. -/
def CurOk (c : L01Cur) : Prop := 0 ≤ c.i ∧ c.i ≤ c.b.length ∧ c.b.length ≤ 1048576
theorem and255 (x : Int) : 0 ≤ IntKind.wrap .i64 (((BitVec.ofInt 64 x &&& BitVec.ofInt 64 255).toNat : Nat) : Int) ∧ IntKind.wrap .i64 (((BitVec.ofInt 64 x &&& BitVec.ofInt 64 255).toNat : Nat) : Int) < 256 := by
  have h : (BitVec.ofInt 64 x &&& BitVec.ofInt 64 255).toNat ≤ 255 := by
    rw [BitVec.toNat_and]
    exact Nat.and_le_right
  rw [wrapL _ (by omega) (by omega)]
  omega
theorem g_byte (c : L01Cur) (hc : CurOk c) : Gives (s_l01Byte c) (fun r => CurOk r.1 ∧ 0 ≤ r.2 ∧ r.2 < 256) := by
  obtain ⟨h0, h1, h2⟩ := hc
  unfold s_l01Byte
  refine gives_bnd (P := fun j => 0 ≤ j.w0_0_1 ∧ j.w0_0_1 ≤ (c.b.length : Int) ∧ 0 ≤ j.v3 ∧ j.v3 < 256) (gives_cond (fun h => ?_) (fun h => ?_)) (fun j hj => gives_some ⟨⟨hj.1, hj.2.1, h2⟩, hj.2.2⟩)
  · rw [List.length_map] at h
    have hlt := of_decide_eq_true h
    refine gives_bnd (P := fun _ => True) (gives_getI h0 hlt (fun _ _ _ => trivial)) (fun x _ => gives_some ⟨?_, ?_, and255 _⟩) <;> dsimp only <;> rw [wrapL _ (by omega) (by omega)] <;> omega
  · exact gives_some ⟨h0, h1, and255 _⟩
theorem tmod_in (a n : Int) (h0 : 0 ≤ a) (hn : 0 < n) : 0 ≤ Int.tmod a n ∧ Int.tmod a n < n := ⟨Int.tmod_nonneg _ h0, Int.tmod_lt_of_pos _ hn⟩
theorem g_below (c : L01Cur) (n : Int) (hc : CurOk c) : Gives (s_l01Below c n) (fun r => CurOk r.1 ∧ 0 ≤ r.2 ∧ (0 < n → r.2 < n)) := by
  unfold s_l01Below
  refine gives_cond (fun h => gives_some ⟨hc, Int.le_refl _, fun hn => ?_⟩) (fun h => gives_cond (fun _ => ?_) (fun _ => ?_))
  · have := of_decide_eq_true h; omega
  · have hn : 0 < n := by have := of_decide_eq_false h; omega
    refine gives_bnd (g_byte c hc) (fun r hr => gives_chk (by omega) (gives_some ⟨hr.1, ?_, fun _ => ?_⟩))
    · exact (tmod_in _ _ hr.2.1 hn).1
    · exact (tmod_in _ _ hr.2.1 hn).2
  · have hn : 0 < n := by have := of_decide_eq_false h; omega
    refine gives_bnd (g_byte c hc) (fun r2 h2 => gives_bnd (g_byte _ h2.1) (fun r3 h3 => gives_bnd (g_byte _ h3.1) (fun r4 h4 => gives_bnd (g_byte _ h4.1) (fun r5 h5 => gives_chk (by omega) ?_))))
    have w1 : IntKind.wrap .i64 (r2.2 * 16777216) = r2.2 * 16777216 := wrapL _ (by omega) (by omega)
    have w2 : IntKind.wrap .i64 (r3.2 * 65536) = r3.2 * 65536 := wrapL _ (by omega) (by omega)
    have w3 : IntKind.wrap .i64 (r4.2 * 256) = r4.2 * 256 := wrapL _ (by omega) (by omega)
    have w4 : IntKind.wrap .i64 (r2.2 * 16777216 + r3.2 * 65536) = r2.2 * 16777216 + r3.2 * 65536 := wrapL _ (by omega) (by omega)
    have w5 : IntKind.wrap .i64 (r2.2 * 16777216 + r3.2 * 65536 + r4.2 * 256) = r2.2 * 16777216 + r3.2 * 65536 + r4.2 * 256 := wrapL _ (by omega) (by omega)
    have w6 : IntKind.wrap .i64 (r2.2 * 16777216 + r3.2 * 65536 + r4.2 * 256 + r5.2) = r2.2 * 16777216 + r3.2 * 65536 + r4.2 * 256 + r5.2 := wrapL _ (by omega) (by omega)
    rw [w1, w2, w3, w4, w5, w6]
    have := tmod_in (r2.2 * 16777216 + r3.2 * 65536 + r4.2 * 256 + r5.2) n (by omega) hn
    exact gives_some ⟨h5.1, this.1, fun _ => this.2⟩
theorem g_new (b : List Int) (hb : b.length ≤ 1048576) : Gives (s_l01New b) CurOk := by
  unfold s_l01New
  refine gives_bnd (P := fun _ => True) (gives_loop (fun s => 0 ≤ s.v4 ∧ s.v4 ≤ 4000) (fun s => 4000 - s.v4.toNat) (fun s hs => ?_) ⟨by dsimp only; omega, by dsimp only; omega⟩) (fun j _ => gives_some ⟨Int.le_refl _, by dsimp only; omega, hb⟩)
  unfold Bs_l01New_1
  refine gives_cond (fun h => ?_) (fun h => gives_some trivial)
  rw [List.length_map] at h
  cases hd : decide (s.v4 < (b.length : Int)) with
  | false => rw [hd] at h; cases h
  | true =>
    rw [hd] at h
    have h1 := of_decide_eq_true hd
    have h2 := of_decide_eq_true (show decide (s.v4 < 4000) = true from h)
    refine gives_bnd (P := fun _ => True) (gives_getI hs.1 h1 (fun _ _ _ => trivial)) (fun x _ => gives_some ⟨?_, ?_⟩) <;> dsimp only <;> rw [wrapL _ (by omega) (by omega)] <;> omega

/-! ### Transactions, keys, ranges -/
theorem g_tx (c : L01Cur) (hc : CurOk c) : Gives (s_l07Tx c) (fun r => CurOk r.1) := by
  unfold s_l07Tx
  exact gives_bnd (g_below c 3 hc) fun r1 h1 => gives_bnd (g_below _ 2 h1.1) fun r2 h2 => gives_bnd (g_below _ 3 h2.1) fun r3 h3 => gives_some h3.1
theorem g_raw (c : L01Cur) (hc : CurOk c) : Gives (s_l01Raw c) (fun r => CurOk r.1) := by
  unfold s_l01Raw
  refine gives_bnd (g_below c 10 hc) fun r1 h1 => gives_cond (fun _ => gives_bnd (g_below _ _ h1.1) fun r h => gives_some h.1) fun _ => gives_cond (fun _ => gives_bnd (g_below _ _ h1.1) fun r h => gives_some h.1) fun _ => gives_cond (fun _ => gives_bnd (g_below _ _ h1.1) fun r h => gives_some h.1) fun _ =>
    gives_cond (fun _ => gives_bnd (g_below _ _ h1.1) fun r h => gives_some h.1) fun _ => gives_cond (fun _ => gives_bnd (g_below _ _ h1.1) fun r h => gives_some h.1) fun _ => gives_cond (fun _ => gives_bnd (g_below _ 8 h1.1) fun r h => gives_bnd (P := fun _ => True) (gives_getI h.2.1 ?_ fun _ _ _ => trivial) fun x _ => gives_some h.1) fun _ => gives_bnd (g_below _ _ h1.1) fun r h => gives_some h.1
  exact h.2.2 (by decide)
theorem g_pick {α : Type} (c : L01Cur) (xs : List α) (n : Int) (k : L01Cur × Int → α → Prop) (hc : CurOk c) : True := trivial
theorem g_anyTx (c : L01Cur) (hc : CurOk c) : Gives (s_l07AnyTx c) (fun r => CurOk r.1) := by
  unfold s_l07AnyTx
  refine gives_bnd (g_tx c hc) fun r1 h1 => gives_bnd (g_below _ 12 h1) fun r2 h2 => ?_
  refine gives_bnd (P := fun j => CurOk ⟨j.w0_0_0, j.w0_0_1, j.w0_0_2⟩) (gives_cond (fun _ => gives_bnd (g_raw _ h2.1) fun r3 h3 => gives_bnd (g_below _ 4 h3) fun r4 h4 => gives_bnd (P := fun _ => True) (gives_getI h4.2.1 (h4.2.2 (by decide)) fun _ _ _ => trivial) fun x _ => gives_some h4.1) (fun _ => gives_some h2.1)) fun j1 k1 => ?_
  refine gives_bnd (P := fun j => CurOk ⟨j.w0_0_0, j.w0_0_1, j.w0_0_2⟩) (gives_cond (fun _ => gives_bnd (g_raw _ k1) fun r3 h3 => gives_bnd (g_below _ 4 h3) fun r4 h4 => gives_bnd (P := fun _ => True) (gives_getI h4.2.1 (h4.2.2 (by decide)) fun _ _ _ => trivial) fun x _ => gives_some h4.1) (fun _ => gives_some k1)) fun j2 k2 => ?_
  refine gives_bnd (P := fun j => CurOk ⟨j.w0_0_0, j.w0_0_1, j.w0_0_2⟩) (gives_cond (fun _ => gives_bnd (g_raw _ k2) fun r3 h3 => gives_bnd (g_below _ 4 h3) fun r4 h4 => gives_bnd (P := fun _ => True) (gives_getI h4.2.1 (h4.2.2 (by decide)) fun _ _ _ => trivial) fun x _ => gives_some h4.1) (fun _ => gives_some k2)) fun j3 k3 => ?_
  exact gives_some k3
theorem numText_small (n : Int) (h0 : 0 ≤ n) (h1 : n < 100) : Gives (s_NumText n) (fun v => v.size ≤ 2) := by
  have e1 : ∀ b : Int, (byteB b).size = 1 := fun b => by simp [byteB, ByteArray.size]
  have hok : s_l01Num n = true := by unfold s_l01Num; rw [decide_eq_true h0, decide_eq_true (by omega)]; rfl
  have one : ∀ k (m : Int), 0 ≤ m → m < 10 → s_NumText_n (k + 1) m = some (byteB (IntKind.wrap .u8 (IntKind.wrap .i64 (48 + m)))) := fun k m g0 g1 => by
    show s_NumText_F (s_NumText_n k) m = _
    unfold s_NumText_F
    rw [show s_l01Num m = true by unfold s_l01Num; rw [decide_eq_true g0, decide_eq_true (by omega)]; rfl, decide_eq_true (show m < 10 by omega)]
    rfl
  unfold s_NumText
  by_cases h : n < 10
  · refine gives_eq (lim_val 1 (one 0 n h0 h) fun k v' hk => ?_) (by rw [e1]; decide)
    cases k with
    | zero => cases hk
    | succ k => rw [one k n h0 h] at hk; exact (Option.some.inj hk).symm
  · have hd : IntKind.wrap .i64 (Int.tdiv n 10) = n / 10 := by rw [Int.tdiv_eq_ediv_of_nonneg h0, wrapL _ (by omega) (by omega)]
    have two : ∀ k, s_NumText_n (k + 2) n = some (byteB (IntKind.wrap .u8 (IntKind.wrap .i64 (48 + n / 10))) ++ byteB (IntKind.wrap .u8 (IntKind.wrap .i64 (48 + Int.tmod n 10)))) := fun k => by
      show s_NumText_F (s_NumText_n (k + 1)) n = _
      unfold s_NumText_F
      rw [hok, decide_eq_false h, hd, one k (n / 10) (by omega) (by omega)]
      simp only [Bool.not_true, cond_false, bnd_some]
      rw [chk_i (by rw [e1, e1]; decide)]
    refine gives_eq (lim_val 2 (two 0) fun k v' hk => ?_) (by rw [ByteArray.size_append, e1, e1]; decide)
    match k, hk with
    | 0, hk => cases hk
    | 1, hk =>
      exfalso
      have : s_NumText_n 1 n = none := by
        show s_NumText_F (s_NumText_n 0) n = _
        unfold s_NumText_F
        rw [hok, decide_eq_false h]
        rfl
      rw [this] at hk; cases hk
    | k + 2, hk => rw [two k] at hk; exact (Option.some.inj hk).symm
theorem g_key (c : L01Cur) (hc : CurOk c) : Gives (s_l02Key c) (fun r => CurOk r.1) := by
  unfold s_l02Key
  refine gives_bnd (g_below c 20 hc) fun r1 h1 => gives_cond (fun h => ?_) fun _ => gives_cond (fun _ => gives_some h1.1) fun _ => gives_cond (fun _ => gives_some h1.1) fun _ => gives_bnd (g_below _ 30 h1.1) fun r2 h2 => ?_
  · have := of_decide_eq_true h
    exact gives_bnd (P := fun _ => True) (gives_getI h1.2.1 (by simpa using this) fun _ _ _ => trivial) fun x _ => gives_some h1.1
  · refine gives_bnd (numText_small _ h2.2.1 (by have := h2.2.2 (by decide); omega)) fun r3 h3 => gives_chk ?_ (gives_some h2.1)
    have : (⟨#[107]⟩ : ByteArray).size = 1 := rfl
    omega
theorem g_pointOf (k : ByteArray) : Gives (s_PointOf k) (fun _ => True) := by
  unfold s_PointOf
  refine gives_cond (fun _ => gives_some trivial) fun h => gives_chk ?_ (gives_some trivial)
  have hk : s_KeyOk k = true := by simpa using h
  unfold s_KeyOk at hk
  cases hd : decide ((k.size : Int) ≥ 1) with
  | false => rw [hd] at hk; cases hk
  | true =>
    rw [hd] at hk
    have := of_decide_eq_true (show decide ((k.size : Int) ≤ 16) = true from hk)
    have e : (⟨#[0]⟩ : ByteArray).size = 1 := rfl
    omega
theorem g_range (c : L01Cur) (hc : CurOk c) : Gives (s_l02Range c) (fun r => CurOk r.1) := by
  unfold s_l02Range
  exact gives_bnd (g_key c hc) fun r1 h1 => gives_bnd (g_key _ h1) fun r2 h2 => gives_bnd (g_below _ 6 h2) fun r3 h3 => gives_cond (fun _ => gives_some h3.1) fun _ => gives_cond (fun _ => gives_some h3.1) fun _ =>
    gives_cond (fun _ => gives_bnd (g_pointOf _) fun r4 _ => gives_some h3.1) fun _ => gives_cond (fun _ => gives_some h3.1) fun _ => gives_some h3.1
theorem g_lock (c : L01Cur) (hc : CurOk c) : Gives (s_l07Lock c) (fun r => CurOk r.1) := by
  unfold s_l07Lock
  exact gives_bnd (g_tx c hc) fun r1 h1 => gives_bnd (g_range _ h1) fun r2 h2 => gives_bnd (g_below _ 2 h2) fun r3 h3 => gives_some h3.1
theorem g_anyRange (c : L01Cur) (hc : CurOk c) : Gives (s_l02AnyRange c) (fun r => CurOk r.1) := by
  unfold s_l02AnyRange
  refine gives_bnd (g_range c hc) fun r1 h1 => gives_bnd (g_below _ 14 h1) fun r2 h2 => ?_
  refine gives_bnd (P := fun _ => True) (gives_cond (fun _ => gives_some trivial) fun _ => gives_some trivial) fun j1 _ => ?_
  refine gives_bnd (P := fun j => CurOk ⟨j.w0_0_0, j.w0_0_1, j.w0_0_2⟩) (gives_cond (fun _ => gives_bnd (g_below _ 2 h2.1) fun r3 h3 => ?_) fun _ => gives_some h2.1) fun j2 k2 => ?_
  · have hw : IntKind.wrap .i64 (17 + r3.2) = 17 + r3.2 := by have := h3.2.2 (by decide); have := h3.2.1; exact wrapL _ (by omega) (by omega)
    have := h3.2.2 (by decide)
    have := h3.2.1
    refine gives_chk (by rw [hw]; omega) (gives_chk (fun n hn => ?_) (gives_some h3.1))
    have := List.eq_of_mem_replicate hn
    omega
  refine gives_bnd (P := fun j => CurOk ⟨j.w0_0_0, j.w0_0_1, j.w0_0_2⟩) (gives_cond (fun _ => gives_bnd (g_below _ 2 k2) fun r4 h4 => gives_bnd (P := fun x => x.size ≤ 1) (gives_getI h4.2.1 (h4.2.2 (by decide)) fun x _ hx => ?_) fun x hx => gives_chk ?_ (gives_some h4.1)) fun _ => gives_some k2) fun j3 k3 => ?_
  · simp only [List.mem_cons, List.not_mem_nil, or_false] at hx
    rcases hx with rfl | rfl <;> decide
  · have : (⟨#[122, 122, 122, 122, 122, 122, 122, 122, 122, 122, 122, 122, 122, 122, 122, 122, 122]⟩ : ByteArray).size = 17 := rfl
    omega
  exact gives_bnd (P := fun _ => True) (gives_cond (fun _ => gives_some trivial) fun _ => gives_some trivial) fun j4 _ => gives_some k3
end Go.Proofs.Ytagoajkiccgmjaa
