/- What functions of the given program compute, each proved once, for the law that is proved in YtagoajkiccgmjaaLocks: whatever their arguments, under the conditions that each theorem names. -/
import Derived.Test.YtagoajkiccgmjaaLocksPartA
set_option linter.unusedVariables false
set_option linter.unusedSimpArgs false
namespace Go.Proofs.Ytagoajkiccgmjaa
open Go.Mv Go.RowKit
structure Xs_l07Draw_1 where
  w0_0_0 : (List Int)
  w0_0_1 : Int
  w0_0_2 : Int
  w3_0_0 : (List Lock)
  w3_0_1 : (List Lock)

structure Ss_l07Draw_1 where
  v4 : Int
  w0_0_0 : (List Int)
  w0_0_1 : Int
  w0_0_2 : Int
  w3_0_0 : (List Lock)
  w3_0_1 : (List Lock)

structure Xs_l07Draw_2 where
  w0_0_0 : (List Int)
  w0_0_1 : Int
  w0_0_2 : Int
  w3_0_0 : (List Lock)
  w3_0_1 : (List Lock)

structure Xs_l07Draw_3 where
  w3_0_0 : (List Lock)
  w3_0_1 : (List Lock)

noncomputable def Bs_l07Draw_1 (s1 : Ss_l07Draw_1) : Option (Ss_l07Draw_1 ⊕ Xs_l07Draw_1) :=
 bif (decide (s1.v4 > 0)) then
 (bnd (bnd (s_l01Below ((⟨s1.w0_0_0, s1.w0_0_1, s1.w0_0_2⟩ : L01Cur)) 5) fun r2 =>
 bif ((r2.2 == 0)) then
 (bnd (s_l07Tx r2.1) fun r3 =>
 bnd (s_LockFree ((⟨s1.w3_0_0, s1.w3_0_1⟩ : Locks)) r3.2) fun r4 =>
 some ((⟨r3.1.b, r3.1.i, r3.1.h, r4.1.held, r4.1.wait⟩ : Xs_l07Draw_2)))
 else
 (bnd (s_l07Lock r2.1) fun r5 =>
 bnd (s_LockAsk ((⟨s1.w3_0_0, s1.w3_0_1⟩ : Locks)) r5.2) fun r6 =>
 bnd (bif (bif ((r6.2 == 0)) then true else ((r6.2 == 3))) then
 (some ((⟨r6.1.held, r6.1.wait⟩ : Xs_l07Draw_3)))
 else
 (some ((⟨s1.w3_0_0, s1.w3_0_1⟩ : Xs_l07Draw_3)))) fun j1 =>
 some ((⟨r5.1.b, r5.1.i, r5.1.h, j1.w3_0_0, j1.w3_0_1⟩ : Xs_l07Draw_2)))) fun j2 =>
 some (.inl ((⟨IntKind.wrap .i64 (s1.v4 - 1), j2.w0_0_0, j2.w0_0_1, j2.w0_0_2, j2.w3_0_0, j2.w3_0_1⟩ : Ss_l07Draw_1))))
 else
 (some (.inr ((⟨s1.w0_0_0, s1.w0_0_1, s1.w0_0_2, s1.w3_0_0, s1.w3_0_1⟩ : Xs_l07Draw_1))))

noncomputable def s_l07Draw (p0 : L01Cur) : Option (L01Cur × Locks) :=
 bnd (s_l01Below p0 9) fun r1 =>
 bnd (loopT (Bs_l07Draw_1) ((⟨r1.2, r1.1.b, r1.1.i, r1.1.h, ([] : List Lock), ([] : List Lock)⟩ : Ss_l07Draw_1))) fun j3 =>
 some (((⟨j3.w0_0_0, j3.w0_0_1, j3.w0_0_2⟩ : L01Cur), (⟨j3.w3_0_0, j3.w3_0_1⟩ : Locks)))
set_option maxHeartbeats 4000000 in
/-- spec.l07Draw -/
theorem k_s_l07Draw (p0 : L01Cur) (v : L01Cur × Locks) (h : s_l07Draw p0 = some v) : CallG Try.prog 96 [.bx [.fz (lC 1 eN_u8 p0.b), iC p0.i, iC p0.h]] [pV 0] [.bx [.fz (lC 1 eN_u8 v.1.b), iC v.1.i, iC v.1.h]] (.agg [.so [] 0 0 ((v.2.held).length), .so [] 0 1 ((v.2.wait).length)]) [lC 6 eLock v.2.held, lC 6 eLock v.2.wait] :=
  callG tyOK Try.func96 rfl (by simp) fun w S γ hS => by
    unfold s_l07Draw at h
    refine a_seq ?_
    refine a_run [0, 2] tyOK (st1 := mk 39 [(0, pV 0), (2, pV 2)] [(0, [.bx [.fz (lC 1 eN_u8 p0.b), iC p0.i, iC p0.h]]), (2, [.bx [.sl 6 ([]), .sl 6 ([])]])]) (by as_aux_lemma => kernel_rfl) ?_
    refine a_seq ?_
    refine a_run [0, 2, 3] tyOK (st1 := mk 39 [(0, pV 0), (2, pV 2), (3, pV 3)] [(0, [.bx [.fz (lC 1 eN_u8 p0.b), iC p0.i, iC p0.h]]), (2, [.bx [.sl 6 ([]), .sl 6 ([])]]), (3, [.bx [.sl 6 ([]), .sl 6 ([])]])]) (by as_aux_lemma => kernel_rfl) ?_
    refine a_seq ?_
    refine a_seq ?_
    refine a_ops [0, 1, 2] (by as_aux_lemma => kernel_rfl) ?_
    refine ao_someM [0] [1, 2] tyOK (l1 := [(0, pV 0), (2, pV 2), (3, pV 3), (8, pV 0)]) (by as_aux_lemma => kernel_rfl) ?_
    obtain ⟨r1, er1, h⟩ := bnd_e h
    refine ao_g2 (g := 55) (d := 9) (A := [pV 0, iV 9]) (A' := [pV 0, iV 9]) (cs := [.bx [.fz (lC 1 eN_u8 p0.b), iC p0.i, iC p0.h]]) (outs := [.bx [.fz (lC 1 eN_u8 r1.1.b), iC r1.1.i, iC r1.1.h]]) (ps := [[(0, 0)]]) (st1 := mk 39 [(0, pV 0), (2, pV 2), (3, pV 3), (9, iV r1.2)] [(0, [.bx [.fz (lC 1 eN_u8 r1.1.b), iC r1.1.i, iC r1.1.h]]), (2, [.bx [.sl 6 ([]), .sl 6 ([])]]), (3, [.bx [.sl 6 ([]), .sl 6 ([])]])]) [0, 2, 3, 9] (k_s_l01Below p0 9 r1 er1) Try.call55 (by as_aux_lemma => kernel_rfl) (.cons (.one (.pl 0 rfl rfl)) (.cons (.one (.same rfl)) .nil)) (handedN_of (szs := [0]) (by as_aux_lemma => kernel_rfl)) (by as_aux_lemma => kernel_rfl) (.bx .nil) (wholeFIO _ _ _ _) (by as_aux_lemma => kernel_rfl) (by as_aux_lemma => kernel_rfl) ?_
    refine ao_someM [2] [] tyOK (l1 := [(0, pV 0), (2, pV 2), (3, pV 3), (4, iV r1.2)]) (by as_aux_lemma => kernel_rfl) ?_
    refine ao_nil ?_
    obtain ⟨y1, h, ky1⟩ := bndJ_e h
    refine a_joinT (ι := Xs_l07Draw_1) (fun j => mk 39 [(0, pV 0), (2, pV 2), (3, pV 3)] [(0, [.bx [.fz (lC 1 eN_u8 j.w0_0_0), iC j.w0_0_1, iC j.w0_0_2]]), (2, [.bx [.sl 6 ([]), .sl 6 ([])]]), (3, [.bx [lC 6 eLock j.w3_0_0, lC 6 eLock j.w3_0_1]])]) (fun j => y1 = j) ?_ ?_
    · refine a_block ?_
      refine a_loopT (Bs_l07Draw_1) (fun s1 => mk 39 [(0, pV 0), (2, pV 2), (3, pV 3), (4, iV s1.v4)] [(0, [.bx [.fz (lC 1 eN_u8 s1.w0_0_0), iC s1.w0_0_1, iC s1.w0_0_2]]), (2, [.bx [.sl 6 ([]), .sl 6 ([])]]), (3, [.bx [lC 6 eLock s1.w3_0_0, lC 6 eLock s1.w3_0_1]])]) ((⟨r1.2, r1.1.b, r1.1.i, r1.1.h, ([] : List Lock), ([] : List Lock)⟩ : Ss_l07Draw_1)) h ?_ ?_
      · exact imp_keepTo [0, 2, 3, 4] (by as_aux_lemma => kernel_rfl) (imp_done rfl)
      intro s1 y2 h zy2
      unfold Bs_l07Draw_1 at h
      refine a_seq ?_
      refine a_seq ?_
      refine a_run [0, 2, 3, 4, 11] tyOK (st1 := mk 39 [(0, pV 0), (2, pV 2), (3, pV 3), (4, iV s1.v4), (11, bV (decide (s1.v4 > 0)))] [(0, [.bx [.fz (lC 1 eN_u8 s1.w0_0_0), iC s1.w0_0_1, iC s1.w0_0_2]]), (2, [.bx [.sl 6 ([]), .sl 6 ([])]]), (3, [.bx [lC 6 eLock s1.w3_0_0, lC 6 eLock s1.w3_0_1]])]) (by as_aux_lemma => kernel_rfl) ?_
      refine a_cond (b := decide (s1.v4 > 0)) (by as_aux_lemma => kernel_rfl) (fun h1 => ?_) (fun h1 => ?_)
      · replace h := cT h1 h
        refine a_skip ?_
        refine a_seq ?_
        obtain ⟨y3, h, ky3⟩ := bndJ_e h
        refine a_joinT (ι := Xs_l07Draw_2) (fun j => mk 39 [(0, pV 0), (2, pV 2), (3, pV 3), (4, iV s1.v4)] [(0, [.bx [.fz (lC 1 eN_u8 j.w0_0_0), iC j.w0_0_1, iC j.w0_0_2]]), (2, [.bx [.sl 6 ([]), .sl 6 ([])]]), (3, [.bx [lC 6 eLock j.w3_0_0, lC 6 eLock j.w3_0_1]])]) (fun j => y3 = j) ?_ ?_
        · refine a_block ?_
          refine a_seq ?_
          refine a_seq ?_
          refine a_ops [0, 1, 2] (by as_aux_lemma => kernel_rfl) ?_
          refine ao_some [0] [1, 2] [0, 2, 3, 4, 14] tyOK (st1 := mk 39 [(0, pV 0), (2, pV 2), (3, pV 3), (4, iV s1.v4), (14, pV 0)] [(0, [.bx [.fz (lC 1 eN_u8 s1.w0_0_0), iC s1.w0_0_1, iC s1.w0_0_2]]), (2, [.bx [.sl 6 ([]), .sl 6 ([])]]), (3, [.bx [lC 6 eLock s1.w3_0_0, lC 6 eLock s1.w3_0_1]])]) (by as_aux_lemma => kernel_rfl) ?_
          obtain ⟨r2, er2, h⟩ := bnd_e h
          refine ao_g2 (g := 55) (d := 15) (A := [pV 0, iV 5]) (A' := [pV 0, iV 5]) (cs := [.bx [.fz (lC 1 eN_u8 s1.w0_0_0), iC s1.w0_0_1, iC s1.w0_0_2]]) (outs := [.bx [.fz (lC 1 eN_u8 r2.1.b), iC r2.1.i, iC r2.1.h]]) (ps := [[(0, 0)]]) (st1 := mk 39 [(0, pV 0), (2, pV 2), (3, pV 3), (4, iV s1.v4), (15, iV r2.2)] [(0, [.bx [.fz (lC 1 eN_u8 r2.1.b), iC r2.1.i, iC r2.1.h]]), (2, [.bx [.sl 6 ([]), .sl 6 ([])]]), (3, [.bx [lC 6 eLock s1.w3_0_0, lC 6 eLock s1.w3_0_1]])]) [0, 2, 3, 4, 15] (k_s_l01Below ((⟨s1.w0_0_0, s1.w0_0_1, s1.w0_0_2⟩ : L01Cur)) 5 r2 er2) Try.call55 (by as_aux_lemma => kernel_rfl) (.cons (.one (.pl 0 rfl rfl)) (.cons (.one (.same rfl)) .nil)) (handedN_of (szs := [0]) (by as_aux_lemma => kernel_rfl)) (by as_aux_lemma => kernel_rfl) (.bx .nil) (wholeFIO _ _ _ _) (by as_aux_lemma => kernel_rfl) (by as_aux_lemma => kernel_rfl) ?_
          refine ao_someM [2] [] tyOK (l1 := [(0, pV 0), (2, pV 2), (3, pV 3), (4, iV s1.v4), (16, bV ((r2.2 == 0)))]) (by as_aux_lemma => kernel_rfl) ?_
          refine ao_nil ?_
          refine a_cond (b := (r2.2 == 0)) (by as_aux_lemma => kernel_rfl) (fun h2 => ?_) (fun h2 => ?_)
          · replace h := cT h2 h
            refine a_seq ?_
            obtain ⟨r3, er3, h⟩ := bnd_e h
            obtain ⟨r4, er4, h⟩ := bnd_e h
            refine a_mid (mk 39 [(0, pV 0), (2, pV 2), (3, pV 3), (4, iV s1.v4)] [(0, [.bx [.fz (lC 1 eN_u8 r3.1.b), iC r3.1.i, iC r3.1.h]]), (2, [.bx [.sl 6 ([]), .sl 6 ([])]]), (3, [.bx [lC 6 eLock r4.1.held, lC 6 eLock r4.1.wait]])]) ?_ ?_
            · refine a_drawn (n := 8) [2, 7] (by as_aux_lemma => kernel_rfl) (by as_aux_lemma => kernel_rfl) ?_
              refine aa_with (fun K to of => ?_)
              have k1 : K 4 #[true, true, true, true, false, false, false, false] (mk 39 [(0, pV 0), (2, pV 2), (3, pV 3), (4, iV s1.v4), (21, .tup [.agg [.so [] 21 0 ((r4.1.held).length), .so [] 21 1 ((r4.1.wait).length)], .one (.so [] 21 2 ((r4.2).length))])] [(0, [.bx [.fz (lC 1 eN_u8 r3.1.b), iC r3.1.i, iC r3.1.h]]), (2, [.bx [.sl 6 ([]), .sl 6 ([])]]), (3, [.bx [lC 6 eLock s1.w3_0_0, lC 6 eLock s1.w3_0_1]]), (21, [lC 6 eLock r4.1.held, lC 6 eLock r4.1.wait, lC 6 eLock r4.2])]) := of (by
                refine aa_takeM (fuel := 2) (listed' := #[true, true, true, true, true, true, false, false]) (l1 := [(0, pV 0), (2, pV 2), (3, pV 3), (4, iV s1.v4), (17, .tup [.agg [.so [] 21 0 ((r4.1.held).length), .so [] 21 1 ((r4.1.wait).length)], .one (.so [] 21 2 ((r4.2).length))]), (22, .agg [.so [] 21 0 ((r4.1.held).length), .so [] 21 1 ((r4.1.wait).length)])]) [4, 5] tyOK (by as_aux_lemma => kernel_rfl) (by as_aux_lemma => kernel_rfl) (by as_aux_lemma => kernel_rfl) ?_
                refine aa_all [6, 7] (by as_aux_lemma => kernel_rfl) rfl ?_
                refine aa_cons ?_ ?_
                · refine aone_anyM (listed' := #[true, true, true, true, true, true, true, false]) (l1 := [(0, pV 0), (2, pV 2), (3, pV 3), (4, iV s1.v4), (22, .agg [.so [] 21 0 ((r4.1.held).length), .so [] 21 1 ((r4.1.wait).length)])]) tyOK (by as_aux_lemma => kernel_rfl) (by as_aux_lemma => kernel_rfl) ?_
                  refine aa_all [7] (by as_aux_lemma => kernel_rfl) rfl ?_
                  refine aa_cons ?_ aa_nil
                  refine aone_o (ob := [(((r4.1.held).map eLock).length, (r4.1.held).length), (((r4.1.wait).map eLock).length, (r4.1.wait).length)]) (listed' := #[true, true, true, true, true, true, true, true]) (st1 := mk 39 [(0, pV 0), (2, pV 2), (3, pV 3), (4, iV s1.v4)] [(0, [.bx [.fz (lC 1 eN_u8 r3.1.b), iC r3.1.i, iC r3.1.h]]), (2, [.bx [.sl 6 ([]), .sl 6 ([])]]), (3, [.bx [lC 6 eLock r4.1.held, lC 6 eLock r4.1.wait]])]) [0, 2, 3, 4] tyOK (by as_aux_lemma => kernel_rfl) ⟨by simp, by simp, trivial⟩ (by as_aux_lemma => kernel_rfl) (by as_aux_lemma => kernel_rfl) ?_
                  refine aa_done (by as_aux_lemma => kernel_rfl) ?_
                  show _ = _; kernel_rfl
                refine aa_cons ?_ aa_nil
                refine aone_o (ob := [(((r4.1.held).map eLock).length, (r4.1.held).length), (((r4.1.wait).map eLock).length, (r4.1.wait).length)]) (listed' := #[true, true, true, true, true, true, false, true]) (st1 := mk 39 [(0, pV 0), (2, pV 2), (3, pV 3), (4, iV s1.v4), (17, .tup [.agg [.unk, .unk], .one (.so [] 21 2 ((r4.2).length))])] [(0, [.bx [.fz (lC 1 eN_u8 r3.1.b), iC r3.1.i, iC r3.1.h]]), (2, [.bx [.sl 6 ([]), .sl 6 ([])]]), (3, [.bx [lC 6 eLock r4.1.held, lC 6 eLock r4.1.wait]]), (21, [.dead, .dead, lC 6 eLock r4.2])]) [0, 2, 3, 4, 17] tyOK (by as_aux_lemma => kernel_rfl) ⟨by simp, by simp, trivial⟩ (by as_aux_lemma => kernel_rfl) (by as_aux_lemma => kernel_rfl) ?_
                refine aa_take (fuel := 0) (listed' := #[true, true, true, true, true, true, true, true]) (st' := mk 39 [(0, pV 0), (2, pV 2), (3, pV 3), (4, iV s1.v4)] [(0, [.bx [.fz (lC 1 eN_u8 r3.1.b), iC r3.1.i, iC r3.1.h]]), (2, [.bx [.sl 6 ([]), .sl 6 ([])]]), (3, [.bx [lC 6 eLock r4.1.held, lC 6 eLock r4.1.wait]])]) [6] [0, 2, 3, 4] tyOK (by as_aux_lemma => kernel_rfl) (by as_aux_lemma => kernel_rfl) (by as_aux_lemma => kernel_rfl) ?_
                refine aa_done (by as_aux_lemma => kernel_rfl) ?_
                show _ = _; kernel_rfl)
              refine aa_takeM (fuel := 7) (listed' := #[false, true, false, false, false, false, false, false]) (l1 := [(0, pV 0), (2, pV 2), (3, pV 3), (4, iV s1.v4), (19, pV 0)]) [1] tyOK (by as_aux_lemma => kernel_rfl) (by as_aux_lemma => kernel_rfl) (by as_aux_lemma => kernel_rfl) ?_
              refine aa_all [0, 2] (by as_aux_lemma => kernel_rfl) rfl ?_
              refine aa_cons ?_ ?_
              · refine aone_anyM (listed' := #[true, true, false, false, false, false, false, false]) (l1 := [(0, pV 0), (2, pV 2), (3, pV 3), (4, iV s1.v4), (18, .agg [.so [(3, 0)] 0 0 (((s1.w3_0_0).map eLock).length), .so [(3, 0)] 0 1 (((s1.w3_0_1).map eLock).length)]), (19, pV 0)]) tyOK (by as_aux_lemma => kernel_rfl) (by as_aux_lemma => kernel_rfl) ?_
                refine aa_all [2] (by as_aux_lemma => kernel_rfl) rfl ?_
                refine aa_cons ?_ aa_nil
                refine aone_g2 (listed' := #[true, true, true, false, false, false, false, false]) (g := 97) (d := 20) (A := [pV 0]) (A' := [pV 0]) (cs := [.bx [.fz (lC 1 eN_u8 r2.1.b), iC r2.1.i, iC r2.1.h]]) (outs := [.bx [.fz (lC 1 eN_u8 r3.1.b), iC r3.1.i, iC r3.1.h]]) (ps := [[(0, 0)]]) (st1 := mk 39 [(0, pV 0), (2, pV 2), (3, pV 3), (4, iV s1.v4), (18, .agg [.so [(3, 0)] 0 0 (((s1.w3_0_0).map eLock).length), .so [(3, 0)] 0 1 (((s1.w3_0_1).map eLock).length)]), (20, .agg [.c (iC r3.2.c), .c (iC r3.2.e), .c (iC r3.2.n)])] [(0, [.bx [.fz (lC 1 eN_u8 r3.1.b), iC r3.1.i, iC r3.1.h]]), (2, [.bx [.sl 6 ([]), .sl 6 ([])]]), (3, [.bx [lC 6 eLock s1.w3_0_0, lC 6 eLock s1.w3_0_1]])]) [0, 2, 3, 4, 18, 20] (k_s_l07Tx r2.1 r3 er3) Try.call97 (by as_aux_lemma => kernel_rfl) (.cons (.one (.pl 0 rfl rfl)) .nil) (handedN_of (szs := [0]) (by as_aux_lemma => kernel_rfl)) (by as_aux_lemma => kernel_rfl) (.bx .nil) (wholeFIO _ _ _ _) (by as_aux_lemma => kernel_rfl) (by as_aux_lemma => kernel_rfl) (by as_aux_lemma => kernel_rfl) (by as_aux_lemma => kernel_rfl) ?_
                refine aa_all [3] (by as_aux_lemma => kernel_rfl) rfl ?_
                refine aa_cons ?_ aa_nil
                refine aone_lend (listed' := #[true, true, true, true, false, false, false, false]) (f := 127) (d := 21) (A := [.agg [.so [(3, 0)] 0 0 (((s1.w3_0_0).map eLock).length), .so [(3, 0)] 0 1 (((s1.w3_0_1).map eLock).length)], .agg [.c (iC r3.2.c), .c (iC r3.2.e), .c (iC r3.2.n)]]) (A' := [.agg [.c (lC 6 eLock s1.w3_0_0), .c (lC 6 eLock s1.w3_0_1)], .agg [.c (iC r3.2.c), .c (iC r3.2.e), .c (iC r3.2.n)]]) (st1 := mk 39 [(0, pV 0), (2, pV 2), (3, pV 3), (4, iV s1.v4), (21, .tup [.agg [.so [] 21 0 ((r4.1.held).length), .so [] 21 1 ((r4.1.wait).length)], .one (.so [] 21 2 ((r4.2).length))])] [(0, [.bx [.fz (lC 1 eN_u8 r3.1.b), iC r3.1.i, iC r3.1.h]]), (2, [.bx [.sl 6 ([]), .sl 6 ([])]]), (3, [.bx [lC 6 eLock s1.w3_0_0, lC 6 eLock s1.w3_0_1]]), (21, [lC 6 eLock r4.1.held, lC 6 eLock r4.1.wait, lC 6 eLock r4.2])]) [0, 2, 3, 4, 21] (k_s_LockFree ((⟨s1.w3_0_0, s1.w3_0_1⟩ : Locks)) r3.2 r4 er4) Try.call127 (by as_aux_lemma => kernel_rfl) (.cons (.agg (.cons (lend_so (by as_aux_lemma => kernel_rfl) (by simp)) (.cons (lend_so (by as_aux_lemma => kernel_rfl) (by simp)) .nil))) (.cons (.agg (.cons (.same rfl) (.cons (.same rfl) (.cons (.same rfl) .nil)))) .nil)) (by as_aux_lemma => kernel_rfl) (clean_cons (clean_map cl_Lock _) (clean_cons (clean_map cl_Lock _) (clean_cons (clean_map cl_Lock _) (clean_nil)))) (by as_aux_lemma => kernel_rfl) (by as_aux_lemma => kernel_rfl) (by as_aux_lemma => kernel_rfl) ?_
                exact to k1
              refine aa_cons ?_ aa_nil
              refine aone_g2 (listed' := #[false, true, true, false, false, false, false, false]) (g := 97) (d := 20) (A := [pV 0]) (A' := [pV 0]) (cs := [.bx [.fz (lC 1 eN_u8 r2.1.b), iC r2.1.i, iC r2.1.h]]) (outs := [.bx [.fz (lC 1 eN_u8 r3.1.b), iC r3.1.i, iC r3.1.h]]) (ps := [[(0, 0)]]) (st1 := mk 39 [(0, pV 0), (2, pV 2), (3, pV 3), (4, iV s1.v4), (20, .agg [.c (iC r3.2.c), .c (iC r3.2.e), .c (iC r3.2.n)])] [(0, [.bx [.fz (lC 1 eN_u8 r3.1.b), iC r3.1.i, iC r3.1.h]]), (2, [.bx [.sl 6 ([]), .sl 6 ([])]]), (3, [.bx [lC 6 eLock s1.w3_0_0, lC 6 eLock s1.w3_0_1]])]) [0, 2, 3, 4, 20] (k_s_l07Tx r2.1 r3 er3) Try.call97 (by as_aux_lemma => kernel_rfl) (.cons (.one (.pl 0 rfl rfl)) .nil) (handedN_of (szs := [0]) (by as_aux_lemma => kernel_rfl)) (by as_aux_lemma => kernel_rfl) (.bx .nil) (wholeFIO _ _ _ _) (by as_aux_lemma => kernel_rfl) (by as_aux_lemma => kernel_rfl) (by as_aux_lemma => kernel_rfl) (by as_aux_lemma => kernel_rfl) ?_
              refine aa_takeM (fuel := 5) (listed' := #[true, true, true, false, false, false, false, false]) (l1 := [(0, pV 0), (2, pV 2), (3, pV 3), (4, iV s1.v4), (18, .agg [.so [(3, 0)] 0 0 (((s1.w3_0_0).map eLock).length), .so [(3, 0)] 0 1 (((s1.w3_0_1).map eLock).length)]), (20, .agg [.c (iC r3.2.c), .c (iC r3.2.e), .c (iC r3.2.n)])]) [0] tyOK (by as_aux_lemma => kernel_rfl) (by as_aux_lemma => kernel_rfl) (by as_aux_lemma => kernel_rfl) ?_
              refine aa_all [3] (by as_aux_lemma => kernel_rfl) rfl ?_
              refine aa_cons ?_ aa_nil
              refine aone_lend (listed' := #[true, true, true, true, false, false, false, false]) (f := 127) (d := 21) (A := [.agg [.so [(3, 0)] 0 0 (((s1.w3_0_0).map eLock).length), .so [(3, 0)] 0 1 (((s1.w3_0_1).map eLock).length)], .agg [.c (iC r3.2.c), .c (iC r3.2.e), .c (iC r3.2.n)]]) (A' := [.agg [.c (lC 6 eLock s1.w3_0_0), .c (lC 6 eLock s1.w3_0_1)], .agg [.c (iC r3.2.c), .c (iC r3.2.e), .c (iC r3.2.n)]]) (st1 := mk 39 [(0, pV 0), (2, pV 2), (3, pV 3), (4, iV s1.v4), (21, .tup [.agg [.so [] 21 0 ((r4.1.held).length), .so [] 21 1 ((r4.1.wait).length)], .one (.so [] 21 2 ((r4.2).length))])] [(0, [.bx [.fz (lC 1 eN_u8 r3.1.b), iC r3.1.i, iC r3.1.h]]), (2, [.bx [.sl 6 ([]), .sl 6 ([])]]), (3, [.bx [lC 6 eLock s1.w3_0_0, lC 6 eLock s1.w3_0_1]]), (21, [lC 6 eLock r4.1.held, lC 6 eLock r4.1.wait, lC 6 eLock r4.2])]) [0, 2, 3, 4, 21] (k_s_LockFree ((⟨s1.w3_0_0, s1.w3_0_1⟩ : Locks)) r3.2 r4 er4) Try.call127 (by as_aux_lemma => kernel_rfl) (.cons (.agg (.cons (lend_so (by as_aux_lemma => kernel_rfl) (by simp)) (.cons (lend_so (by as_aux_lemma => kernel_rfl) (by simp)) .nil))) (.cons (.agg (.cons (.same rfl) (.cons (.same rfl) (.cons (.same rfl) .nil)))) .nil)) (by as_aux_lemma => kernel_rfl) (clean_cons (clean_map cl_Lock _) (clean_cons (clean_map cl_Lock _) (clean_cons (clean_map cl_Lock _) (clean_nil)))) (by as_aux_lemma => kernel_rfl) (by as_aux_lemma => kernel_rfl) (by as_aux_lemma => kernel_rfl) ?_
              exact to k1
            refine a_exit ?_
            obtain rfl := Option.some.inj h
            show ∃ _, _ ∧ Imp _ _ _
            refine ⟨_, rfl, ?_⟩
            exact imp_keepTo [0, 2, 3, 4] (by as_aux_lemma => kernel_rfl) (imp_done rfl)
          · replace h := cF h2 h
            refine a_skip ?_
            refine a_seq ?_
            obtain ⟨r5, er5, h⟩ := bnd_e h
            obtain ⟨r6, er6, h⟩ := bnd_e h
            refine a_mid (mk 39 [(0, pV 0), (2, pV 2), (3, pV 3), (4, iV s1.v4), (5, pV 5), (6, iV r6.2)] [(0, [.bx [.fz (lC 1 eN_u8 r5.1.b), iC r5.1.i, iC r5.1.h]]), (2, [.bx [.sl 6 ([]), .sl 6 ([])]]), (3, [.bx [lC 6 eLock s1.w3_0_0, lC 6 eLock s1.w3_0_1]]), (5, [.bx [lC 6 eLock r6.1.held, lC 6 eLock r6.1.wait]])]) ?_ ?_
            · refine a_drawn (n := 10) [2, 8] (by as_aux_lemma => kernel_rfl) (by as_aux_lemma => kernel_rfl) ?_
              refine aa_with (fun K to of => ?_)
              have k2 : K 2 #[true, true, true, true, true, true, true, true, false, false] (mk 39 [(0, pV 0), (2, pV 2), (3, pV 3), (4, iV s1.v4), (5, pV 5), (29, .agg [.so [] 28 0 ((r6.1.held).length), .so [] 28 1 ((r6.1.wait).length)]), (30, iV r6.2)] [(0, [.bx [.fz (lC 1 eN_u8 r5.1.b), iC r5.1.i, iC r5.1.h]]), (2, [.bx [.sl 6 ([]), .sl 6 ([])]]), (3, [.bx [lC 6 eLock s1.w3_0_0, lC 6 eLock s1.w3_0_1]]), (5, [.bx [.sl 6 ([]), .sl 6 ([])]]), (28, [lC 6 eLock r6.1.held, lC 6 eLock r6.1.wait])]) := of (by
                refine aa_all [8] (by as_aux_lemma => kernel_rfl) rfl ?_
                refine aa_cons ?_ aa_nil
                refine aone_o (ob := [(((r6.1.held).map eLock).length, (r6.1.held).length), (((r6.1.wait).map eLock).length, (r6.1.wait).length)]) (listed' := #[true, true, true, true, true, true, true, true, true, false]) (st1 := mk 39 [(0, pV 0), (2, pV 2), (3, pV 3), (4, iV s1.v4), (5, pV 5), (30, iV r6.2)] [(0, [.bx [.fz (lC 1 eN_u8 r5.1.b), iC r5.1.i, iC r5.1.h]]), (2, [.bx [.sl 6 ([]), .sl 6 ([])]]), (3, [.bx [lC 6 eLock s1.w3_0_0, lC 6 eLock s1.w3_0_1]]), (5, [.bx [lC 6 eLock r6.1.held, lC 6 eLock r6.1.wait]])]) [0, 2, 3, 4, 5, 30] tyOK (by as_aux_lemma => kernel_rfl) ⟨by simp, by simp, trivial⟩ (by as_aux_lemma => kernel_rfl) (by as_aux_lemma => kernel_rfl) ?_
                refine aa_takeM (fuel := 0) (listed' := #[true, true, true, true, true, true, true, true, true, true]) (l1 := [(0, pV 0), (2, pV 2), (3, pV 3), (4, iV s1.v4), (5, pV 5), (6, iV r6.2)]) [9] tyOK (by as_aux_lemma => kernel_rfl) (by as_aux_lemma => kernel_rfl) (by as_aux_lemma => kernel_rfl) ?_
                refine aa_done (by as_aux_lemma => kernel_rfl) ?_
                show _ = _; kernel_rfl)
              have k3 : K 2 #[true, true, true, true, true, true, false, true, true, false] (mk 39 [(0, pV 0), (2, pV 2), (3, pV 3), (4, iV s1.v4), (5, pV 5), (24, .tup [.agg [.unk, .unk], .one (.c (iC r6.2))])] [(0, [.bx [.fz (lC 1 eN_u8 r5.1.b), iC r5.1.i, iC r5.1.h]]), (2, [.bx [.sl 6 ([]), .sl 6 ([])]]), (3, [.bx [lC 6 eLock s1.w3_0_0, lC 6 eLock s1.w3_0_1]]), (5, [.bx [lC 6 eLock r6.1.held, lC 6 eLock r6.1.wait]])]) := of (by
                refine aa_takeM (fuel := 0) (listed' := #[true, true, true, true, true, true, true, true, true, true]) (l1 := [(0, pV 0), (2, pV 2), (3, pV 3), (4, iV s1.v4), (5, pV 5), (6, iV r6.2)]) [6, 9] tyOK (by as_aux_lemma => kernel_rfl) (by as_aux_lemma => kernel_rfl) (by as_aux_lemma => kernel_rfl) ?_
                refine aa_done (by as_aux_lemma => kernel_rfl) ?_
                show _ = _; kernel_rfl)
              have k4 : K 6 #[true, true, true, true, false, false, false, false, false, false] (mk 39 [(0, pV 0), (2, pV 2), (3, pV 3), (4, iV s1.v4), (28, .tup [.agg [.so [] 28 0 ((r6.1.held).length), .so [] 28 1 ((r6.1.wait).length)], .one (.c (iC r6.2))])] [(0, [.bx [.fz (lC 1 eN_u8 r5.1.b), iC r5.1.i, iC r5.1.h]]), (2, [.bx [.sl 6 ([]), .sl 6 ([])]]), (3, [.bx [lC 6 eLock s1.w3_0_0, lC 6 eLock s1.w3_0_1]]), (28, [lC 6 eLock r6.1.held, lC 6 eLock r6.1.wait])]) := of (by
                refine aa_takeM (fuel := 4) (listed' := #[true, true, true, true, true, true, false, false, false, false]) (l1 := [(0, pV 0), (2, pV 2), (3, pV 3), (4, iV s1.v4), (24, .tup [.agg [.so [] 28 0 ((r6.1.held).length), .so [] 28 1 ((r6.1.wait).length)], .one (.c (iC r6.2))]), (29, .agg [.so [] 28 0 ((r6.1.held).length), .so [] 28 1 ((r6.1.wait).length)])]) [4, 5] tyOK (by as_aux_lemma => kernel_rfl) (by as_aux_lemma => kernel_rfl) (by as_aux_lemma => kernel_rfl) ?_
                refine aa_all [6, 7] (by as_aux_lemma => kernel_rfl) rfl ?_
                refine aa_cons ?_ ?_
                · refine aone_anyM (listed' := #[true, true, true, true, true, true, true, false, false, false]) (l1 := [(0, pV 0), (2, pV 2), (3, pV 3), (4, iV s1.v4), (29, .agg [.so [] 28 0 ((r6.1.held).length), .so [] 28 1 ((r6.1.wait).length)]), (30, iV r6.2)]) tyOK (by as_aux_lemma => kernel_rfl) (by as_aux_lemma => kernel_rfl) ?_
                  refine aa_all [7] (by as_aux_lemma => kernel_rfl) rfl ?_
                  refine aa_cons ?_ aa_nil
                  refine aone_any (listed' := #[true, true, true, true, true, true, true, true, false, false]) (st1 := mk 39 [(0, pV 0), (2, pV 2), (3, pV 3), (4, iV s1.v4), (5, pV 5), (29, .agg [.so [] 28 0 ((r6.1.held).length), .so [] 28 1 ((r6.1.wait).length)]), (30, iV r6.2)] [(0, [.bx [.fz (lC 1 eN_u8 r5.1.b), iC r5.1.i, iC r5.1.h]]), (2, [.bx [.sl 6 ([]), .sl 6 ([])]]), (3, [.bx [lC 6 eLock s1.w3_0_0, lC 6 eLock s1.w3_0_1]]), (5, [.bx [.sl 6 ([]), .sl 6 ([])]]), (28, [lC 6 eLock r6.1.held, lC 6 eLock r6.1.wait])]) [0, 2, 3, 4, 5, 29, 30] tyOK (by as_aux_lemma => kernel_rfl) (by as_aux_lemma => kernel_rfl) ?_
                  exact to k2
                refine aa_cons ?_ aa_nil
                refine aone_any (listed' := #[true, true, true, true, true, true, false, true, false, false]) (st1 := mk 39 [(0, pV 0), (2, pV 2), (3, pV 3), (4, iV s1.v4), (5, pV 5), (24, .tup [.agg [.so [] 28 0 ((r6.1.held).length), .so [] 28 1 ((r6.1.wait).length)], .one (.c (iC r6.2))]), (29, .agg [.so [] 28 0 ((r6.1.held).length), .so [] 28 1 ((r6.1.wait).length)])] [(0, [.bx [.fz (lC 1 eN_u8 r5.1.b), iC r5.1.i, iC r5.1.h]]), (2, [.bx [.sl 6 ([]), .sl 6 ([])]]), (3, [.bx [lC 6 eLock s1.w3_0_0, lC 6 eLock s1.w3_0_1]]), (5, [.bx [.sl 6 ([]), .sl 6 ([])]]), (28, [lC 6 eLock r6.1.held, lC 6 eLock r6.1.wait])]) [0, 2, 3, 4, 5, 24, 29] tyOK (by as_aux_lemma => kernel_rfl) (by as_aux_lemma => kernel_rfl) ?_
                refine aa_all [6, 8] (by as_aux_lemma => kernel_rfl) rfl ?_
                refine aa_cons ?_ ?_
                · refine aone_anyM (listed' := #[true, true, true, true, true, true, true, true, false, false]) (l1 := [(0, pV 0), (2, pV 2), (3, pV 3), (4, iV s1.v4), (5, pV 5), (29, .agg [.so [] 28 0 ((r6.1.held).length), .so [] 28 1 ((r6.1.wait).length)]), (30, iV r6.2)]) tyOK (by as_aux_lemma => kernel_rfl) (by as_aux_lemma => kernel_rfl) ?_
                  exact to k2
                refine aa_cons ?_ aa_nil
                refine aone_o (ob := [(((r6.1.held).map eLock).length, (r6.1.held).length), (((r6.1.wait).map eLock).length, (r6.1.wait).length)]) (listed' := #[true, true, true, true, true, true, false, true, true, false]) (st1 := mk 39 [(0, pV 0), (2, pV 2), (3, pV 3), (4, iV s1.v4), (5, pV 5), (24, .tup [.agg [.unk, .unk], .one (.c (iC r6.2))])] [(0, [.bx [.fz (lC 1 eN_u8 r5.1.b), iC r5.1.i, iC r5.1.h]]), (2, [.bx [.sl 6 ([]), .sl 6 ([])]]), (3, [.bx [lC 6 eLock s1.w3_0_0, lC 6 eLock s1.w3_0_1]]), (5, [.bx [lC 6 eLock r6.1.held, lC 6 eLock r6.1.wait]])]) [0, 2, 3, 4, 5, 24] tyOK (by as_aux_lemma => kernel_rfl) ⟨by simp, by simp, trivial⟩ (by as_aux_lemma => kernel_rfl) (by as_aux_lemma => kernel_rfl) ?_
                exact to k3)
              have k5 : K 5 #[true, true, true, true, false, false, false, true, false, false] (mk 39 [(0, pV 0), (2, pV 2), (3, pV 3), (4, iV s1.v4), (5, pV 5), (28, .tup [.agg [.so [] 28 0 ((r6.1.held).length), .so [] 28 1 ((r6.1.wait).length)], .one (.c (iC r6.2))])] [(0, [.bx [.fz (lC 1 eN_u8 r5.1.b), iC r5.1.i, iC r5.1.h]]), (2, [.bx [.sl 6 ([]), .sl 6 ([])]]), (3, [.bx [lC 6 eLock s1.w3_0_0, lC 6 eLock s1.w3_0_1]]), (5, [.bx [.sl 6 ([]), .sl 6 ([])]]), (28, [lC 6 eLock r6.1.held, lC 6 eLock r6.1.wait])]) := of (by
                refine aa_takeM (fuel := 3) (listed' := #[true, true, true, true, true, true, false, true, false, false]) (l1 := [(0, pV 0), (2, pV 2), (3, pV 3), (4, iV s1.v4), (5, pV 5), (24, .tup [.agg [.so [] 28 0 ((r6.1.held).length), .so [] 28 1 ((r6.1.wait).length)], .one (.c (iC r6.2))]), (29, .agg [.so [] 28 0 ((r6.1.held).length), .so [] 28 1 ((r6.1.wait).length)])]) [4, 5] tyOK (by as_aux_lemma => kernel_rfl) (by as_aux_lemma => kernel_rfl) (by as_aux_lemma => kernel_rfl) ?_
                refine aa_all [6, 8] (by as_aux_lemma => kernel_rfl) rfl ?_
                refine aa_cons ?_ ?_
                · refine aone_anyM (listed' := #[true, true, true, true, true, true, true, true, false, false]) (l1 := [(0, pV 0), (2, pV 2), (3, pV 3), (4, iV s1.v4), (5, pV 5), (29, .agg [.so [] 28 0 ((r6.1.held).length), .so [] 28 1 ((r6.1.wait).length)]), (30, iV r6.2)]) tyOK (by as_aux_lemma => kernel_rfl) (by as_aux_lemma => kernel_rfl) ?_
                  exact to k2
                refine aa_cons ?_ aa_nil
                refine aone_o (ob := [(((r6.1.held).map eLock).length, (r6.1.held).length), (((r6.1.wait).map eLock).length, (r6.1.wait).length)]) (listed' := #[true, true, true, true, true, true, false, true, true, false]) (st1 := mk 39 [(0, pV 0), (2, pV 2), (3, pV 3), (4, iV s1.v4), (5, pV 5), (24, .tup [.agg [.unk, .unk], .one (.c (iC r6.2))])] [(0, [.bx [.fz (lC 1 eN_u8 r5.1.b), iC r5.1.i, iC r5.1.h]]), (2, [.bx [.sl 6 ([]), .sl 6 ([])]]), (3, [.bx [lC 6 eLock s1.w3_0_0, lC 6 eLock s1.w3_0_1]]), (5, [.bx [lC 6 eLock r6.1.held, lC 6 eLock r6.1.wait]])]) [0, 2, 3, 4, 5, 24] tyOK (by as_aux_lemma => kernel_rfl) ⟨by simp, by simp, trivial⟩ (by as_aux_lemma => kernel_rfl) (by as_aux_lemma => kernel_rfl) ?_
                exact to k3)
              have k6 : K 6 #[true, true, true, false, false, false, false, true, false, false] (mk 39 [(0, pV 0), (2, pV 2), (3, pV 3), (4, iV s1.v4), (5, pV 5), (25, .agg [.so [(3, 0)] 0 0 (((s1.w3_0_0).map eLock).length), .so [(3, 0)] 0 1 (((s1.w3_0_1).map eLock).length)]), (27, .agg [.c (iC r5.2.tx.c), .c (iC r5.2.tx.e), .c (iC r5.2.tx.n), .c (sC r5.2.range.lo), .c (sC r5.2.range.hi), .c (bC r5.2.ex)])] [(0, [.bx [.fz (lC 1 eN_u8 r5.1.b), iC r5.1.i, iC r5.1.h]]), (2, [.bx [.sl 6 ([]), .sl 6 ([])]]), (3, [.bx [lC 6 eLock s1.w3_0_0, lC 6 eLock s1.w3_0_1]]), (5, [.bx [.sl 6 ([]), .sl 6 ([])]])]) := of (by
                refine aa_all [3] (by as_aux_lemma => kernel_rfl) rfl ?_
                refine aa_cons ?_ aa_nil
                refine aone_lend (listed' := #[true, true, true, true, false, false, false, true, false, false]) (f := 19) (d := 28) (A := [.agg [.so [(3, 0)] 0 0 (((s1.w3_0_0).map eLock).length), .so [(3, 0)] 0 1 (((s1.w3_0_1).map eLock).length)], .agg [.c (iC r5.2.tx.c), .c (iC r5.2.tx.e), .c (iC r5.2.tx.n), .c (sC r5.2.range.lo), .c (sC r5.2.range.hi), .c (bC r5.2.ex)]]) (A' := [.agg [.c (lC 6 eLock s1.w3_0_0), .c (lC 6 eLock s1.w3_0_1)], .agg [.c (iC r5.2.tx.c), .c (iC r5.2.tx.e), .c (iC r5.2.tx.n), .c (sC r5.2.range.lo), .c (sC r5.2.range.hi), .c (bC r5.2.ex)]]) (st1 := mk 39 [(0, pV 0), (2, pV 2), (3, pV 3), (4, iV s1.v4), (5, pV 5), (28, .tup [.agg [.so [] 28 0 ((r6.1.held).length), .so [] 28 1 ((r6.1.wait).length)], .one (.c (iC r6.2))])] [(0, [.bx [.fz (lC 1 eN_u8 r5.1.b), iC r5.1.i, iC r5.1.h]]), (2, [.bx [.sl 6 ([]), .sl 6 ([])]]), (3, [.bx [lC 6 eLock s1.w3_0_0, lC 6 eLock s1.w3_0_1]]), (5, [.bx [.sl 6 ([]), .sl 6 ([])]]), (28, [lC 6 eLock r6.1.held, lC 6 eLock r6.1.wait])]) [0, 2, 3, 4, 5, 28] (k_s_LockAsk ((⟨s1.w3_0_0, s1.w3_0_1⟩ : Locks)) r5.2 r6 er6) Try.call19 (by as_aux_lemma => kernel_rfl) (.cons (.agg (.cons (lend_so (by as_aux_lemma => kernel_rfl) (by simp)) (.cons (lend_so (by as_aux_lemma => kernel_rfl) (by simp)) .nil))) (.cons (.agg (.cons (.same rfl) (.cons (.same rfl) (.cons (.same rfl) (.cons (.same rfl) (.cons (.same rfl) (.cons (.same rfl) .nil))))))) .nil)) (by as_aux_lemma => kernel_rfl) (clean_cons (clean_map cl_Lock _) (clean_cons (clean_map cl_Lock _) (clean_nil))) (by as_aux_lemma => kernel_rfl) (by as_aux_lemma => kernel_rfl) (by as_aux_lemma => kernel_rfl) ?_
                exact to k5)
              have k7 : K 7 #[true, true, false, false, false, false, false, true, false, false] (mk 39 [(0, pV 0), (2, pV 2), (3, pV 3), (4, iV s1.v4), (5, pV 5), (25, .agg [.so [(3, 0)] 0 0 (((s1.w3_0_0).map eLock).length), .so [(3, 0)] 0 1 (((s1.w3_0_1).map eLock).length)]), (26, pV 0)] [(0, [.bx [.fz (lC 1 eN_u8 r2.1.b), iC r2.1.i, iC r2.1.h]]), (2, [.bx [.sl 6 ([]), .sl 6 ([])]]), (3, [.bx [lC 6 eLock s1.w3_0_0, lC 6 eLock s1.w3_0_1]]), (5, [.bx [.sl 6 ([]), .sl 6 ([])]])]) := of (by
                refine aa_all [2] (by as_aux_lemma => kernel_rfl) rfl ?_
                refine aa_cons ?_ aa_nil
                refine aone_g2 (listed' := #[true, true, true, false, false, false, false, true, false, false]) (g := 54) (d := 27) (A := [pV 0]) (A' := [pV 0]) (cs := [.bx [.fz (lC 1 eN_u8 r2.1.b), iC r2.1.i, iC r2.1.h]]) (outs := [.bx [.fz (lC 1 eN_u8 r5.1.b), iC r5.1.i, iC r5.1.h]]) (ps := [[(0, 0)]]) (st1 := mk 39 [(0, pV 0), (2, pV 2), (3, pV 3), (4, iV s1.v4), (5, pV 5), (25, .agg [.so [(3, 0)] 0 0 (((s1.w3_0_0).map eLock).length), .so [(3, 0)] 0 1 (((s1.w3_0_1).map eLock).length)]), (27, .agg [.c (iC r5.2.tx.c), .c (iC r5.2.tx.e), .c (iC r5.2.tx.n), .c (sC r5.2.range.lo), .c (sC r5.2.range.hi), .c (bC r5.2.ex)])] [(0, [.bx [.fz (lC 1 eN_u8 r5.1.b), iC r5.1.i, iC r5.1.h]]), (2, [.bx [.sl 6 ([]), .sl 6 ([])]]), (3, [.bx [lC 6 eLock s1.w3_0_0, lC 6 eLock s1.w3_0_1]]), (5, [.bx [.sl 6 ([]), .sl 6 ([])]])]) [0, 2, 3, 4, 5, 25, 27] (k_s_l07Lock r2.1 r5 er5) Try.call54 (by as_aux_lemma => kernel_rfl) (.cons (.one (.pl 0 rfl rfl)) .nil) (handedN_of (szs := [0]) (by as_aux_lemma => kernel_rfl)) (by as_aux_lemma => kernel_rfl) (.bx .nil) (wholeFIO _ _ _ _) (by as_aux_lemma => kernel_rfl) (by as_aux_lemma => kernel_rfl) (by as_aux_lemma => kernel_rfl) (by as_aux_lemma => kernel_rfl) ?_
                exact to k6)
              refine aa_takeM (fuel := 9) (listed' := #[false, true, false, false, false, false, false, false, false, false]) (l1 := [(0, pV 0), (2, pV 2), (3, pV 3), (4, iV s1.v4), (26, pV 0)]) [1] tyOK (by as_aux_lemma => kernel_rfl) (by as_aux_lemma => kernel_rfl) (by as_aux_lemma => kernel_rfl) ?_
              refine aa_all [0, 2, 7] (by as_aux_lemma => kernel_rfl) rfl ?_
              refine aa_cons ?_ ?_
              · refine aone_anyM (listed' := #[true, true, false, false, false, false, false, false, false, false]) (l1 := [(0, pV 0), (2, pV 2), (3, pV 3), (4, iV s1.v4), (25, .agg [.so [(3, 0)] 0 0 (((s1.w3_0_0).map eLock).length), .so [(3, 0)] 0 1 (((s1.w3_0_1).map eLock).length)]), (26, pV 0)]) tyOK (by as_aux_lemma => kernel_rfl) (by as_aux_lemma => kernel_rfl) ?_
                refine aa_all [2, 7] (by as_aux_lemma => kernel_rfl) rfl ?_
                refine aa_cons ?_ ?_
                · refine aone_g2 (listed' := #[true, true, true, false, false, false, false, false, false, false]) (g := 54) (d := 27) (A := [pV 0]) (A' := [pV 0]) (cs := [.bx [.fz (lC 1 eN_u8 r2.1.b), iC r2.1.i, iC r2.1.h]]) (outs := [.bx [.fz (lC 1 eN_u8 r5.1.b), iC r5.1.i, iC r5.1.h]]) (ps := [[(0, 0)]]) (st1 := mk 39 [(0, pV 0), (2, pV 2), (3, pV 3), (4, iV s1.v4), (25, .agg [.so [(3, 0)] 0 0 (((s1.w3_0_0).map eLock).length), .so [(3, 0)] 0 1 (((s1.w3_0_1).map eLock).length)]), (27, .agg [.c (iC r5.2.tx.c), .c (iC r5.2.tx.e), .c (iC r5.2.tx.n), .c (sC r5.2.range.lo), .c (sC r5.2.range.hi), .c (bC r5.2.ex)])] [(0, [.bx [.fz (lC 1 eN_u8 r5.1.b), iC r5.1.i, iC r5.1.h]]), (2, [.bx [.sl 6 ([]), .sl 6 ([])]]), (3, [.bx [lC 6 eLock s1.w3_0_0, lC 6 eLock s1.w3_0_1]])]) [0, 2, 3, 4, 25, 27] (k_s_l07Lock r2.1 r5 er5) Try.call54 (by as_aux_lemma => kernel_rfl) (.cons (.one (.pl 0 rfl rfl)) .nil) (handedN_of (szs := [0]) (by as_aux_lemma => kernel_rfl)) (by as_aux_lemma => kernel_rfl) (.bx .nil) (wholeFIO _ _ _ _) (by as_aux_lemma => kernel_rfl) (by as_aux_lemma => kernel_rfl) (by as_aux_lemma => kernel_rfl) (by as_aux_lemma => kernel_rfl) ?_
                  refine aa_all [3, 7] (by as_aux_lemma => kernel_rfl) rfl ?_
                  refine aa_cons ?_ ?_
                  · refine aone_lend (listed' := #[true, true, true, true, false, false, false, false, false, false]) (f := 19) (d := 28) (A := [.agg [.so [(3, 0)] 0 0 (((s1.w3_0_0).map eLock).length), .so [(3, 0)] 0 1 (((s1.w3_0_1).map eLock).length)], .agg [.c (iC r5.2.tx.c), .c (iC r5.2.tx.e), .c (iC r5.2.tx.n), .c (sC r5.2.range.lo), .c (sC r5.2.range.hi), .c (bC r5.2.ex)]]) (A' := [.agg [.c (lC 6 eLock s1.w3_0_0), .c (lC 6 eLock s1.w3_0_1)], .agg [.c (iC r5.2.tx.c), .c (iC r5.2.tx.e), .c (iC r5.2.tx.n), .c (sC r5.2.range.lo), .c (sC r5.2.range.hi), .c (bC r5.2.ex)]]) (st1 := mk 39 [(0, pV 0), (2, pV 2), (3, pV 3), (4, iV s1.v4), (28, .tup [.agg [.so [] 28 0 ((r6.1.held).length), .so [] 28 1 ((r6.1.wait).length)], .one (.c (iC r6.2))])] [(0, [.bx [.fz (lC 1 eN_u8 r5.1.b), iC r5.1.i, iC r5.1.h]]), (2, [.bx [.sl 6 ([]), .sl 6 ([])]]), (3, [.bx [lC 6 eLock s1.w3_0_0, lC 6 eLock s1.w3_0_1]]), (28, [lC 6 eLock r6.1.held, lC 6 eLock r6.1.wait])]) [0, 2, 3, 4, 28] (k_s_LockAsk ((⟨s1.w3_0_0, s1.w3_0_1⟩ : Locks)) r5.2 r6 er6) Try.call19 (by as_aux_lemma => kernel_rfl) (.cons (.agg (.cons (lend_so (by as_aux_lemma => kernel_rfl) (by simp)) (.cons (lend_so (by as_aux_lemma => kernel_rfl) (by simp)) .nil))) (.cons (.agg (.cons (.same rfl) (.cons (.same rfl) (.cons (.same rfl) (.cons (.same rfl) (.cons (.same rfl) (.cons (.same rfl) .nil))))))) .nil)) (by as_aux_lemma => kernel_rfl) (clean_cons (clean_map cl_Lock _) (clean_cons (clean_map cl_Lock _) (clean_nil))) (by as_aux_lemma => kernel_rfl) (by as_aux_lemma => kernel_rfl) (by as_aux_lemma => kernel_rfl) ?_
                    exact to k4
                  refine aa_cons ?_ aa_nil
                  refine aone_any (listed' := #[true, true, true, false, false, false, false, true, false, false]) (st1 := mk 39 [(0, pV 0), (2, pV 2), (3, pV 3), (4, iV s1.v4), (5, pV 5), (25, .agg [.so [(3, 0)] 0 0 (((s1.w3_0_0).map eLock).length), .so [(3, 0)] 0 1 (((s1.w3_0_1).map eLock).length)]), (27, .agg [.c (iC r5.2.tx.c), .c (iC r5.2.tx.e), .c (iC r5.2.tx.n), .c (sC r5.2.range.lo), .c (sC r5.2.range.hi), .c (bC r5.2.ex)])] [(0, [.bx [.fz (lC 1 eN_u8 r5.1.b), iC r5.1.i, iC r5.1.h]]), (2, [.bx [.sl 6 ([]), .sl 6 ([])]]), (3, [.bx [lC 6 eLock s1.w3_0_0, lC 6 eLock s1.w3_0_1]]), (5, [.bx [.sl 6 ([]), .sl 6 ([])]])]) [0, 2, 3, 4, 5, 25, 27] tyOK (by as_aux_lemma => kernel_rfl) (by as_aux_lemma => kernel_rfl) ?_
                  exact to k6
                refine aa_cons ?_ aa_nil
                refine aone_any (listed' := #[true, true, false, false, false, false, false, true, false, false]) (st1 := mk 39 [(0, pV 0), (2, pV 2), (3, pV 3), (4, iV s1.v4), (5, pV 5), (25, .agg [.so [(3, 0)] 0 0 (((s1.w3_0_0).map eLock).length), .so [(3, 0)] 0 1 (((s1.w3_0_1).map eLock).length)]), (26, pV 0)] [(0, [.bx [.fz (lC 1 eN_u8 r2.1.b), iC r2.1.i, iC r2.1.h]]), (2, [.bx [.sl 6 ([]), .sl 6 ([])]]), (3, [.bx [lC 6 eLock s1.w3_0_0, lC 6 eLock s1.w3_0_1]]), (5, [.bx [.sl 6 ([]), .sl 6 ([])]])]) [0, 2, 3, 4, 5, 25, 26] tyOK (by as_aux_lemma => kernel_rfl) (by as_aux_lemma => kernel_rfl) ?_
                exact to k7
              refine aa_cons ?_ ?_
              · refine aone_g2 (listed' := #[false, true, true, false, false, false, false, false, false, false]) (g := 54) (d := 27) (A := [pV 0]) (A' := [pV 0]) (cs := [.bx [.fz (lC 1 eN_u8 r2.1.b), iC r2.1.i, iC r2.1.h]]) (outs := [.bx [.fz (lC 1 eN_u8 r5.1.b), iC r5.1.i, iC r5.1.h]]) (ps := [[(0, 0)]]) (st1 := mk 39 [(0, pV 0), (2, pV 2), (3, pV 3), (4, iV s1.v4), (27, .agg [.c (iC r5.2.tx.c), .c (iC r5.2.tx.e), .c (iC r5.2.tx.n), .c (sC r5.2.range.lo), .c (sC r5.2.range.hi), .c (bC r5.2.ex)])] [(0, [.bx [.fz (lC 1 eN_u8 r5.1.b), iC r5.1.i, iC r5.1.h]]), (2, [.bx [.sl 6 ([]), .sl 6 ([])]]), (3, [.bx [lC 6 eLock s1.w3_0_0, lC 6 eLock s1.w3_0_1]])]) [0, 2, 3, 4, 27] (k_s_l07Lock r2.1 r5 er5) Try.call54 (by as_aux_lemma => kernel_rfl) (.cons (.one (.pl 0 rfl rfl)) .nil) (handedN_of (szs := [0]) (by as_aux_lemma => kernel_rfl)) (by as_aux_lemma => kernel_rfl) (.bx .nil) (wholeFIO _ _ _ _) (by as_aux_lemma => kernel_rfl) (by as_aux_lemma => kernel_rfl) (by as_aux_lemma => kernel_rfl) (by as_aux_lemma => kernel_rfl) ?_
                refine aa_takeM (fuel := 7) (listed' := #[true, true, true, false, false, false, false, false, false, false]) (l1 := [(0, pV 0), (2, pV 2), (3, pV 3), (4, iV s1.v4), (25, .agg [.so [(3, 0)] 0 0 (((s1.w3_0_0).map eLock).length), .so [(3, 0)] 0 1 (((s1.w3_0_1).map eLock).length)]), (27, .agg [.c (iC r5.2.tx.c), .c (iC r5.2.tx.e), .c (iC r5.2.tx.n), .c (sC r5.2.range.lo), .c (sC r5.2.range.hi), .c (bC r5.2.ex)])]) [0] tyOK (by as_aux_lemma => kernel_rfl) (by as_aux_lemma => kernel_rfl) (by as_aux_lemma => kernel_rfl) ?_
                refine aa_all [3, 7] (by as_aux_lemma => kernel_rfl) rfl ?_
                refine aa_cons ?_ ?_
                · refine aone_lend (listed' := #[true, true, true, true, false, false, false, false, false, false]) (f := 19) (d := 28) (A := [.agg [.so [(3, 0)] 0 0 (((s1.w3_0_0).map eLock).length), .so [(3, 0)] 0 1 (((s1.w3_0_1).map eLock).length)], .agg [.c (iC r5.2.tx.c), .c (iC r5.2.tx.e), .c (iC r5.2.tx.n), .c (sC r5.2.range.lo), .c (sC r5.2.range.hi), .c (bC r5.2.ex)]]) (A' := [.agg [.c (lC 6 eLock s1.w3_0_0), .c (lC 6 eLock s1.w3_0_1)], .agg [.c (iC r5.2.tx.c), .c (iC r5.2.tx.e), .c (iC r5.2.tx.n), .c (sC r5.2.range.lo), .c (sC r5.2.range.hi), .c (bC r5.2.ex)]]) (st1 := mk 39 [(0, pV 0), (2, pV 2), (3, pV 3), (4, iV s1.v4), (28, .tup [.agg [.so [] 28 0 ((r6.1.held).length), .so [] 28 1 ((r6.1.wait).length)], .one (.c (iC r6.2))])] [(0, [.bx [.fz (lC 1 eN_u8 r5.1.b), iC r5.1.i, iC r5.1.h]]), (2, [.bx [.sl 6 ([]), .sl 6 ([])]]), (3, [.bx [lC 6 eLock s1.w3_0_0, lC 6 eLock s1.w3_0_1]]), (28, [lC 6 eLock r6.1.held, lC 6 eLock r6.1.wait])]) [0, 2, 3, 4, 28] (k_s_LockAsk ((⟨s1.w3_0_0, s1.w3_0_1⟩ : Locks)) r5.2 r6 er6) Try.call19 (by as_aux_lemma => kernel_rfl) (.cons (.agg (.cons (lend_so (by as_aux_lemma => kernel_rfl) (by simp)) (.cons (lend_so (by as_aux_lemma => kernel_rfl) (by simp)) .nil))) (.cons (.agg (.cons (.same rfl) (.cons (.same rfl) (.cons (.same rfl) (.cons (.same rfl) (.cons (.same rfl) (.cons (.same rfl) .nil))))))) .nil)) (by as_aux_lemma => kernel_rfl) (clean_cons (clean_map cl_Lock _) (clean_cons (clean_map cl_Lock _) (clean_nil))) (by as_aux_lemma => kernel_rfl) (by as_aux_lemma => kernel_rfl) (by as_aux_lemma => kernel_rfl) ?_
                  exact to k4
                refine aa_cons ?_ aa_nil
                refine aone_any (listed' := #[true, true, true, false, false, false, false, true, false, false]) (st1 := mk 39 [(0, pV 0), (2, pV 2), (3, pV 3), (4, iV s1.v4), (5, pV 5), (25, .agg [.so [(3, 0)] 0 0 (((s1.w3_0_0).map eLock).length), .so [(3, 0)] 0 1 (((s1.w3_0_1).map eLock).length)]), (27, .agg [.c (iC r5.2.tx.c), .c (iC r5.2.tx.e), .c (iC r5.2.tx.n), .c (sC r5.2.range.lo), .c (sC r5.2.range.hi), .c (bC r5.2.ex)])] [(0, [.bx [.fz (lC 1 eN_u8 r5.1.b), iC r5.1.i, iC r5.1.h]]), (2, [.bx [.sl 6 ([]), .sl 6 ([])]]), (3, [.bx [lC 6 eLock s1.w3_0_0, lC 6 eLock s1.w3_0_1]]), (5, [.bx [.sl 6 ([]), .sl 6 ([])]])]) [0, 2, 3, 4, 5, 25, 27] tyOK (by as_aux_lemma => kernel_rfl) (by as_aux_lemma => kernel_rfl) ?_
                exact to k6
              refine aa_cons ?_ aa_nil
              refine aone_any (listed' := #[false, true, false, false, false, false, false, true, false, false]) (st1 := mk 39 [(0, pV 0), (2, pV 2), (3, pV 3), (4, iV s1.v4), (5, pV 5), (26, pV 0)] [(0, [.bx [.fz (lC 1 eN_u8 r2.1.b), iC r2.1.i, iC r2.1.h]]), (2, [.bx [.sl 6 ([]), .sl 6 ([])]]), (3, [.bx [lC 6 eLock s1.w3_0_0, lC 6 eLock s1.w3_0_1]]), (5, [.bx [.sl 6 ([]), .sl 6 ([])]])]) [0, 2, 3, 4, 5, 26] tyOK (by as_aux_lemma => kernel_rfl) (by as_aux_lemma => kernel_rfl) ?_
              refine aa_all [0, 2] (by as_aux_lemma => kernel_rfl) rfl ?_
              refine aa_cons ?_ ?_
              · refine aone_anyM (listed' := #[true, true, false, false, false, false, false, true, false, false]) (l1 := [(0, pV 0), (2, pV 2), (3, pV 3), (4, iV s1.v4), (5, pV 5), (25, .agg [.so [(3, 0)] 0 0 (((s1.w3_0_0).map eLock).length), .so [(3, 0)] 0 1 (((s1.w3_0_1).map eLock).length)]), (26, pV 0)]) tyOK (by as_aux_lemma => kernel_rfl) (by as_aux_lemma => kernel_rfl) ?_
                exact to k7
              refine aa_cons ?_ aa_nil
              refine aone_g2 (listed' := #[false, true, true, false, false, false, false, true, false, false]) (g := 54) (d := 27) (A := [pV 0]) (A' := [pV 0]) (cs := [.bx [.fz (lC 1 eN_u8 r2.1.b), iC r2.1.i, iC r2.1.h]]) (outs := [.bx [.fz (lC 1 eN_u8 r5.1.b), iC r5.1.i, iC r5.1.h]]) (ps := [[(0, 0)]]) (st1 := mk 39 [(0, pV 0), (2, pV 2), (3, pV 3), (4, iV s1.v4), (5, pV 5), (27, .agg [.c (iC r5.2.tx.c), .c (iC r5.2.tx.e), .c (iC r5.2.tx.n), .c (sC r5.2.range.lo), .c (sC r5.2.range.hi), .c (bC r5.2.ex)])] [(0, [.bx [.fz (lC 1 eN_u8 r5.1.b), iC r5.1.i, iC r5.1.h]]), (2, [.bx [.sl 6 ([]), .sl 6 ([])]]), (3, [.bx [lC 6 eLock s1.w3_0_0, lC 6 eLock s1.w3_0_1]]), (5, [.bx [.sl 6 ([]), .sl 6 ([])]])]) [0, 2, 3, 4, 5, 27] (k_s_l07Lock r2.1 r5 er5) Try.call54 (by as_aux_lemma => kernel_rfl) (.cons (.one (.pl 0 rfl rfl)) .nil) (handedN_of (szs := [0]) (by as_aux_lemma => kernel_rfl)) (by as_aux_lemma => kernel_rfl) (.bx .nil) (wholeFIO _ _ _ _) (by as_aux_lemma => kernel_rfl) (by as_aux_lemma => kernel_rfl) (by as_aux_lemma => kernel_rfl) (by as_aux_lemma => kernel_rfl) ?_
              refine aa_takeM (fuel := 6) (listed' := #[true, true, true, false, false, false, false, true, false, false]) (l1 := [(0, pV 0), (2, pV 2), (3, pV 3), (4, iV s1.v4), (5, pV 5), (25, .agg [.so [(3, 0)] 0 0 (((s1.w3_0_0).map eLock).length), .so [(3, 0)] 0 1 (((s1.w3_0_1).map eLock).length)]), (27, .agg [.c (iC r5.2.tx.c), .c (iC r5.2.tx.e), .c (iC r5.2.tx.n), .c (sC r5.2.range.lo), .c (sC r5.2.range.hi), .c (bC r5.2.ex)])]) [0] tyOK (by as_aux_lemma => kernel_rfl) (by as_aux_lemma => kernel_rfl) (by as_aux_lemma => kernel_rfl) ?_
              refine aa_all [3] (by as_aux_lemma => kernel_rfl) rfl ?_
              refine aa_cons ?_ aa_nil
              refine aone_lend (listed' := #[true, true, true, true, false, false, false, true, false, false]) (f := 19) (d := 28) (A := [.agg [.so [(3, 0)] 0 0 (((s1.w3_0_0).map eLock).length), .so [(3, 0)] 0 1 (((s1.w3_0_1).map eLock).length)], .agg [.c (iC r5.2.tx.c), .c (iC r5.2.tx.e), .c (iC r5.2.tx.n), .c (sC r5.2.range.lo), .c (sC r5.2.range.hi), .c (bC r5.2.ex)]]) (A' := [.agg [.c (lC 6 eLock s1.w3_0_0), .c (lC 6 eLock s1.w3_0_1)], .agg [.c (iC r5.2.tx.c), .c (iC r5.2.tx.e), .c (iC r5.2.tx.n), .c (sC r5.2.range.lo), .c (sC r5.2.range.hi), .c (bC r5.2.ex)]]) (st1 := mk 39 [(0, pV 0), (2, pV 2), (3, pV 3), (4, iV s1.v4), (5, pV 5), (28, .tup [.agg [.so [] 28 0 ((r6.1.held).length), .so [] 28 1 ((r6.1.wait).length)], .one (.c (iC r6.2))])] [(0, [.bx [.fz (lC 1 eN_u8 r5.1.b), iC r5.1.i, iC r5.1.h]]), (2, [.bx [.sl 6 ([]), .sl 6 ([])]]), (3, [.bx [lC 6 eLock s1.w3_0_0, lC 6 eLock s1.w3_0_1]]), (5, [.bx [.sl 6 ([]), .sl 6 ([])]]), (28, [lC 6 eLock r6.1.held, lC 6 eLock r6.1.wait])]) [0, 2, 3, 4, 5, 28] (k_s_LockAsk ((⟨s1.w3_0_0, s1.w3_0_1⟩ : Locks)) r5.2 r6 er6) Try.call19 (by as_aux_lemma => kernel_rfl) (.cons (.agg (.cons (lend_so (by as_aux_lemma => kernel_rfl) (by simp)) (.cons (lend_so (by as_aux_lemma => kernel_rfl) (by simp)) .nil))) (.cons (.agg (.cons (.same rfl) (.cons (.same rfl) (.cons (.same rfl) (.cons (.same rfl) (.cons (.same rfl) (.cons (.same rfl) .nil))))))) .nil)) (by as_aux_lemma => kernel_rfl) (clean_cons (clean_map cl_Lock _) (clean_cons (clean_map cl_Lock _) (clean_nil))) (by as_aux_lemma => kernel_rfl) (by as_aux_lemma => kernel_rfl) (by as_aux_lemma => kernel_rfl) ?_
              exact to k5
            refine a_seq ?_
            refine a_mid (mk 39 [(0, pV 0), (2, pV 2), (3, pV 3), (4, iV s1.v4), (5, pV 5), (36, bV (bif ((r6.2 == 0)) then true else ((r6.2 == 3))))] [(0, [.bx [.fz (lC 1 eN_u8 r5.1.b), iC r5.1.i, iC r5.1.h]]), (2, [.bx [.sl 6 ([]), .sl 6 ([])]]), (3, [.bx [lC 6 eLock s1.w3_0_0, lC 6 eLock s1.w3_0_1]]), (5, [.bx [lC 6 eLock r6.1.held, lC 6 eLock r6.1.wait]])]) ?_ ?_
            · refine a_ops [0, 1, 2, 3, 4, 5] (by as_aux_lemma => kernel_rfl) ?_
              refine ao_someM [0, 1, 2] [3, 4, 5] tyOK (l1 := [(0, pV 0), (2, pV 2), (3, pV 3), (4, iV s1.v4), (5, pV 5), (6, iV r6.2), (33, bV ((r6.2 == 0)))]) (by as_aux_lemma => kernel_rfl) ?_
              rcases Bool.eq_false_or_eq_true ((r6.2 == 0)) with h3 | h3
              · refine ao_saysM (k := 33) (t := bV ((r6.2 == 0))) (t' := bV true) (l1 := [(0, pV 0), (2, pV 2), (3, pV 3), (4, iV s1.v4), (5, pV 5), (6, iV r6.2), (33, bV true)]) (by as_aux_lemma => kernel_rfl) (by rw [h3]) (by as_aux_lemma => kernel_rfl) ?_
                refine ao_someM [3, 4, 5] [] tyOK (l1 := [(0, pV 0), (2, pV 2), (3, pV 3), (4, iV s1.v4), (5, pV 5), (36, bV true)]) (by as_aux_lemma => kernel_rfl) ?_
                refine ao_nil ?_
                show mk 39 [(0, pV 0), (2, pV 2), (3, pV 3), (4, iV s1.v4), (5, pV 5), (36, bV true)] [(0, [.bx [.fz (lC 1 eN_u8 r5.1.b), iC r5.1.i, iC r5.1.h]]), (2, [.bx [.sl 6 ([]), .sl 6 ([])]]), (3, [.bx [lC 6 eLock s1.w3_0_0, lC 6 eLock s1.w3_0_1]]), (5, [.bx [lC 6 eLock r6.1.held, lC 6 eLock r6.1.wait]])] = mk 39 [(0, pV 0), (2, pV 2), (3, pV 3), (4, iV s1.v4), (5, pV 5), (36, bV (bif ((r6.2 == 0)) then true else ((r6.2 == 3))))] [(0, [.bx [.fz (lC 1 eN_u8 r5.1.b), iC r5.1.i, iC r5.1.h]]), (2, [.bx [.sl 6 ([]), .sl 6 ([])]]), (3, [.bx [lC 6 eLock s1.w3_0_0, lC 6 eLock s1.w3_0_1]]), (5, [.bx [lC 6 eLock r6.1.held, lC 6 eLock r6.1.wait]])]
                first | rfl | (simp only [h3, cond_true, cond_false]) | (simp only [h3, cond_true, cond_false]; rfl)
              · refine ao_saysM (k := 33) (t := bV ((r6.2 == 0))) (t' := bV false) (l1 := [(0, pV 0), (2, pV 2), (3, pV 3), (4, iV s1.v4), (5, pV 5), (6, iV r6.2), (33, bV false)]) (by as_aux_lemma => kernel_rfl) (by rw [h3]) (by as_aux_lemma => kernel_rfl) ?_
                refine ao_someM [3, 4, 5] [] tyOK (l1 := [(0, pV 0), (2, pV 2), (3, pV 3), (4, iV s1.v4), (5, pV 5), (36, bV ((r6.2 == 3)))]) (by as_aux_lemma => kernel_rfl) ?_
                refine ao_nil ?_
                show mk 39 [(0, pV 0), (2, pV 2), (3, pV 3), (4, iV s1.v4), (5, pV 5), (36, bV ((r6.2 == 3)))] [(0, [.bx [.fz (lC 1 eN_u8 r5.1.b), iC r5.1.i, iC r5.1.h]]), (2, [.bx [.sl 6 ([]), .sl 6 ([])]]), (3, [.bx [lC 6 eLock s1.w3_0_0, lC 6 eLock s1.w3_0_1]]), (5, [.bx [lC 6 eLock r6.1.held, lC 6 eLock r6.1.wait]])] = mk 39 [(0, pV 0), (2, pV 2), (3, pV 3), (4, iV s1.v4), (5, pV 5), (36, bV (bif ((r6.2 == 0)) then true else ((r6.2 == 3))))] [(0, [.bx [.fz (lC 1 eN_u8 r5.1.b), iC r5.1.i, iC r5.1.h]]), (2, [.bx [.sl 6 ([]), .sl 6 ([])]]), (3, [.bx [lC 6 eLock s1.w3_0_0, lC 6 eLock s1.w3_0_1]]), (5, [.bx [lC 6 eLock r6.1.held, lC 6 eLock r6.1.wait]])]
                first | rfl | (simp only [h3, cond_true, cond_false]) | (simp only [h3, cond_true, cond_false]; rfl)
            obtain ⟨y4, h, ky4⟩ := bndJ_e h
            refine a_joinT (ι := Xs_l07Draw_3) (fun j => mk 39 [(0, pV 0), (2, pV 2), (3, pV 3), (4, iV s1.v4)] [(0, [.bx [.fz (lC 1 eN_u8 r5.1.b), iC r5.1.i, iC r5.1.h]]), (2, [.bx [.sl 6 ([]), .sl 6 ([])]]), (3, [.bx [lC 6 eLock j.w3_0_0, lC 6 eLock j.w3_0_1]])]) (fun j => y4 = j) ?_ ?_
            · refine a_cond (b := bif ((r6.2 == 0)) then true else ((r6.2 == 3))) (by as_aux_lemma => kernel_rfl) (fun h3 => ?_) (fun h3 => ?_)
              · replace h := cT h3 h
                refine a_ops [0, 1] (by as_aux_lemma => kernel_rfl) ?_
                refine ao_some [0] [1] [0, 2, 3, 4, 37] tyOK (st1 := mk 39 [(0, pV 0), (2, pV 2), (3, pV 3), (4, iV s1.v4), (37, .agg [.so [(5, 0)] 0 0 (((r6.1.held).map eLock).length), .so [(5, 0)] 0 1 (((r6.1.wait).map eLock).length)])] [(0, [.bx [.fz (lC 1 eN_u8 r5.1.b), iC r5.1.i, iC r5.1.h]]), (2, [.bx [.sl 6 ([]), .sl 6 ([])]]), (3, [.bx [lC 6 eLock s1.w3_0_0, lC 6 eLock s1.w3_0_1]]), (5, [.bx [lC 6 eLock r6.1.held, lC 6 eLock r6.1.wait]])]) (by as_aux_lemma => kernel_rfl) ?_
                refine ao_o (ob := [(((r6.1.held).map eLock).length, ((r6.1.held).map eLock).length), (((r6.1.wait).map eLock).length, ((r6.1.wait).map eLock).length)]) (st1 := mk 39 [(0, pV 0), (2, pV 2), (3, pV 3), (4, iV s1.v4)] [(0, [.bx [.fz (lC 1 eN_u8 r5.1.b), iC r5.1.i, iC r5.1.h]]), (2, [.bx [.sl 6 ([]), .sl 6 ([])]]), (3, [.bx [lC 6 eLock r6.1.held, lC 6 eLock r6.1.wait]])]) [0, 2, 3, 4] tyOK (by as_aux_lemma => kernel_rfl) ⟨by simp, by simp, trivial⟩ ?_
                refine ao_nil ?_
                obtain rfl := Option.some.inj h
                show ∃ _, _ ∧ Imp _ _ _
                refine ⟨_, rfl, ?_⟩
                exact imp_keepTo [0, 2, 3, 4] (by as_aux_lemma => kernel_rfl) (imp_done rfl)
              · replace h := cF h3 h
                refine a_skip ?_
                obtain rfl := Option.some.inj h
                show ∃ _, _ ∧ Imp _ _ _
                refine ⟨_, rfl, ?_⟩
                exact imp_keepTo [0, 2, 3, 4] (by as_aux_lemma => kernel_rfl) (imp_done rfl)
            intro j1 hj1
            replace h := ky4 _ hj1
            obtain rfl := Option.some.inj h
            show ∃ _, _ ∧ Imp _ _ _
            refine ⟨_, rfl, ?_⟩
            exact imp_keepTo [0, 2, 3, 4] (by as_aux_lemma => kernel_rfl) (imp_done rfl)
        intro j2 hj2
        replace h := ky3 _ hj2
        refine a_run [0, 2, 3, 4] tyOK (st1 := mk 39 [(0, pV 0), (2, pV 2), (3, pV 3), (4, iV (IntKind.wrap .i64 (s1.v4 - 1)))] [(0, [.bx [.fz (lC 1 eN_u8 j2.w0_0_0), iC j2.w0_0_1, iC j2.w0_0_2]]), (2, [.bx [.sl 6 ([]), .sl 6 ([])]]), (3, [.bx [lC 6 eLock j2.w3_0_0, lC 6 eLock j2.w3_0_1]])]) (by as_aux_lemma => kernel_rfl) ?_
        obtain rfl := Option.some.inj h
        show ∃ _, _ ∧ Imp _ _ _
        refine ⟨_, rfl, ?_⟩
        exact imp_keepTo [0, 2, 3, 4] (by as_aux_lemma => kernel_rfl) (imp_done rfl)
      · replace h := cF h1 h
        refine a_exit ?_
        obtain rfl := Option.some.inj h
        obtain rfl := zy2 _ rfl
        show ∃ _, _ ∧ Imp _ _ _
        refine ⟨_, rfl, ?_⟩
        exact imp_keepTo [0, 2, 3] (by as_aux_lemma => kernel_rfl) (imp_done rfl)
    intro j3 hj3
    replace h := ky1 _ hj3
    refine a_seq ?_
    refine a_ops [0, 1] (by as_aux_lemma => kernel_rfl) ?_
    refine ao_some [0] [1] [0, 2, 38] tyOK (st1 := mk 39 [(0, pV 0), (2, pV 2), (38, .agg [.so [(3, 0)] 0 0 (((j3.w3_0_0).map eLock).length), .so [(3, 0)] 0 1 (((j3.w3_0_1).map eLock).length)])] [(0, [.bx [.fz (lC 1 eN_u8 j3.w0_0_0), iC j3.w0_0_1, iC j3.w0_0_2]]), (2, [.bx [.sl 6 ([]), .sl 6 ([])]]), (3, [.bx [lC 6 eLock j3.w3_0_0, lC 6 eLock j3.w3_0_1]])]) (by as_aux_lemma => kernel_rfl) ?_
    refine ao_o (ob := [(((j3.w3_0_0).map eLock).length, ((j3.w3_0_0).map eLock).length), (((j3.w3_0_1).map eLock).length, ((j3.w3_0_1).map eLock).length)]) (st1 := mk 39 [(0, pV 0), (2, pV 2)] [(0, [.bx [.fz (lC 1 eN_u8 j3.w0_0_0), iC j3.w0_0_1, iC j3.w0_0_2]]), (2, [.bx [lC 6 eLock j3.w3_0_0, lC 6 eLock j3.w3_0_1]])]) [0, 2] tyOK (by as_aux_lemma => kernel_rfl) ⟨by simp, by simp, trivial⟩ ?_
    refine ao_nil ?_
    refine a_ret ?_
    obtain rfl := Option.some.inj h
    exact end_g (ob := [(((j3.w3_0_0).map eLock).length, ((j3.w3_0_0).map eLock).length), (((j3.w3_0_1).map eLock).length, ((j3.w3_0_1).map eLock).length)]) (outs' := [.bx [.fz (lC 1 eN_u8 j3.w0_0_0), iC j3.w0_0_1, iC j3.w0_0_2]]) (res' := .agg [.so [] 0 0 (((j3.w3_0_0).map eLock).length), .so [] 0 1 (((j3.w3_0_1).map eLock).length)]) (row' := [lC 6 eLock j3.w3_0_0, lC 6 eLock j3.w3_0_1]) (by as_aux_lemma => kernel_rfl) ⟨by simp, by simp, trivial⟩ (by first | rfl | simp) (by first | rfl | simp) (by first | rfl | simp)


end Go.Proofs.Ytagoajkiccgmjaa
namespace Go.Proofs.Ytagoajkiccgmjaa
open Go.Mv Go.RowKit
structure Xs_l02AnyRange_2 where
  w0_0_0 : (List Int)
  w0_0_1 : Int
  w0_0_2 : Int
  w3_0_0 : ByteArray

structure Xs_l02AnyRange_3 where
  w0_0_0 : (List Int)
  w0_0_1 : Int
  w0_0_2 : Int
  w3_0_1 : ByteArray

structure Xs_l02AnyRange_4 where
  w3_0_0 : ByteArray
  w3_0_1 : ByteArray

noncomputable def s_l02AnyRange (p0 : L01Cur) : Option (L01Cur × Range) :=
 bnd (s_l02Range p0) fun r1 =>
 bnd (s_l01Below r1.1 14) fun r2 =>
 bnd (bif ((r2.2 == 0)) then
 (some r1.2.lo)
 else
 (some r1.2.hi)) fun j1 =>
 bnd (bif ((r2.2 == 1)) then
 (bnd (s_l01Below r2.1 2) fun r3 =>
 chk (0 ≤ (IntKind.wrap .i64 (17 + r3.2) : Int) ∧ (IntKind.wrap .i64 (17 + r3.2) : Int).toNat * 1 ≤ 140737488355328) <|
 chk (∀ n ∈ (List.replicate (IntKind.wrap .i64 (17 + r3.2) : Int).toNat 0 : List Int), 0 ≤ n ∧ n < 256) <|
 some ((⟨r3.1.b, r3.1.i, r3.1.h, strOfNums (List.replicate (IntKind.wrap .i64 (17 + r3.2) : Int).toNat 0)⟩ : Xs_l02AnyRange_2)))
 else
 (some ((⟨r2.1.b, r2.1.i, r2.1.h, r1.2.lo⟩ : Xs_l02AnyRange_2)))) fun j2 =>
 bnd (bif ((r2.2 == 2)) then
 (bnd (s_l01Below ((⟨j2.w0_0_0, j2.w0_0_1, j2.w0_0_2⟩ : L01Cur)) 2) fun r4 =>
 bnd (getI ([(⟨#[]⟩ : ByteArray), (⟨#[122]⟩ : ByteArray)]) r4.2) fun x1 =>
 chk ((((⟨#[122, 122, 122, 122, 122, 122, 122, 122, 122, 122, 122, 122, 122, 122, 122, 122, 122]⟩ : ByteArray)).size + x1.size ≤ 140737488355328)) <|
 some ((⟨r4.1.b, r4.1.i, r4.1.h, ((⟨#[122, 122, 122, 122, 122, 122, 122, 122, 122, 122, 122, 122, 122, 122, 122, 122, 122]⟩ : ByteArray)) ++ x1⟩ : Xs_l02AnyRange_3)))
 else
 (some ((⟨j2.w0_0_0, j2.w0_0_1, j2.w0_0_2, j1⟩ : Xs_l02AnyRange_3)))) fun j3 =>
 bnd (bif ((r2.2 == 3)) then
 (some ((⟨j3.w3_0_1, j2.w3_0_0⟩ : Xs_l02AnyRange_4)))
 else
 (some ((⟨j2.w3_0_0, j3.w3_0_1⟩ : Xs_l02AnyRange_4)))) fun j4 =>
 some (((⟨j3.w0_0_0, j3.w0_0_1, j3.w0_0_2⟩ : L01Cur), (⟨j4.w3_0_0, j4.w3_0_1⟩ : Range)))
set_option maxHeartbeats 4000000 in
/-- spec.l02AnyRange -/
theorem k_s_l02AnyRange (p0 : L01Cur) (v : L01Cur × Range) (h : s_l02AnyRange p0 = some v) : CallG Try.prog 57 [.bx [.fz (lC 1 eN_u8 p0.b), iC p0.i, iC p0.h]] [pV 0] [.bx [.fz (lC 1 eN_u8 v.1.b), iC v.1.i, iC v.1.h]] (.agg [.c (sC v.2.lo), .c (sC v.2.hi)]) [] :=
  callG tyOK Try.func57 rfl (by simp) fun w S γ hS => by
    unfold s_l02AnyRange at h
    refine a_seq ?_
    refine a_run [0, 2] tyOK (st1 := mk 39 [(0, pV 0), (2, pV 2)] [(0, [.bx [.fz (lC 1 eN_u8 p0.b), iC p0.i, iC p0.h]]), (2, [.bx [sC ((⟨#[]⟩ : ByteArray)), sC ((⟨#[]⟩ : ByteArray))]])]) (by kernel_rfl) ?_
    refine a_seq ?_
    refine a_ops [0, 1, 2, 3] (by kernel_rfl) ?_
    refine ao_someM [0] [1, 2, 3] tyOK (l1 := [(0, pV 0), (2, pV 2), (5, pV 0)]) (by kernel_rfl) ?_
    obtain ⟨r1, er1, h⟩ := bnd_e h
    refine ao_g2 (g := 98) (d := 6) (A := [pV 0]) (A' := [pV 0]) (cs := [.bx [.fz (lC 1 eN_u8 p0.b), iC p0.i, iC p0.h]]) (outs := [.bx [.fz (lC 1 eN_u8 r1.1.b), iC r1.1.i, iC r1.1.h]]) (ps := [[(0, 0)]]) (st1 := mk 39 [(0, pV 0), (2, pV 2), (6, .agg [.c (sC r1.2.lo), .c (sC r1.2.hi)])] [(0, [.bx [.fz (lC 1 eN_u8 r1.1.b), iC r1.1.i, iC r1.1.h]]), (2, [.bx [sC ((⟨#[]⟩ : ByteArray)), sC ((⟨#[]⟩ : ByteArray))]])]) [0, 2, 6] (k_s_l02Range p0 r1 er1) Try.call98 (by kernel_rfl) (.cons (.one (.pl 0 rfl rfl)) .nil) (handedN_of (szs := [0]) (by kernel_rfl)) (by kernel_rfl) (.bx .nil) (wholeFIO _ _ _ _) (by kernel_rfl) (by kernel_rfl) ?_
    refine ao_some [2, 3] [] [0, 2, 3] tyOK (st1 := mk 39 [(0, pV 0), (2, pV 2), (3, pV 3)] [(0, [.bx [.fz (lC 1 eN_u8 r1.1.b), iC r1.1.i, iC r1.1.h]]), (2, [.bx [sC ((⟨#[]⟩ : ByteArray)), sC ((⟨#[]⟩ : ByteArray))]]), (3, [.bx [sC r1.2.lo, sC r1.2.hi]])]) (by kernel_rfl) ?_
    refine ao_nil ?_
    refine a_seq ?_
    refine a_ops [0, 1, 2] (by kernel_rfl) ?_
    refine ao_someM [0] [1, 2] tyOK (l1 := [(0, pV 0), (2, pV 2), (3, pV 3), (7, pV 0)]) (by kernel_rfl) ?_
    obtain ⟨r2, er2, h⟩ := bnd_e h
    refine ao_g2 (g := 55) (d := 8) (A := [pV 0, iV 14]) (A' := [pV 0, iV 14]) (cs := [.bx [.fz (lC 1 eN_u8 r1.1.b), iC r1.1.i, iC r1.1.h]]) (outs := [.bx [.fz (lC 1 eN_u8 r2.1.b), iC r2.1.i, iC r2.1.h]]) (ps := [[(0, 0)]]) (st1 := mk 39 [(0, pV 0), (2, pV 2), (3, pV 3), (8, iV r2.2)] [(0, [.bx [.fz (lC 1 eN_u8 r2.1.b), iC r2.1.i, iC r2.1.h]]), (2, [.bx [sC ((⟨#[]⟩ : ByteArray)), sC ((⟨#[]⟩ : ByteArray))]]), (3, [.bx [sC r1.2.lo, sC r1.2.hi]])]) [0, 2, 3, 8] (k_s_l01Below r1.1 14 r2 er2) Try.call55 (by kernel_rfl) (.cons (.one (.pl 0 rfl rfl)) (.cons (.one (.same rfl)) .nil)) (handedN_of (szs := [0]) (by kernel_rfl)) (by kernel_rfl) (.bx .nil) (wholeFIO _ _ _ _) (by kernel_rfl) (by kernel_rfl) ?_
    refine ao_someM [2] [] tyOK (l1 := [(0, pV 0), (2, pV 2), (3, pV 3), (4, iV r2.2)]) (by kernel_rfl) ?_
    refine ao_nil ?_
    refine a_seq ?_
    refine a_seq ?_
    refine a_runM tyOK (l1 := [(0, pV 0), (2, pV 2), (3, pV 3), (4, iV r2.2), (10, bV ((r2.2 == 0)))]) (by kernel_rfl) ?_
    obtain ⟨y1, h, ky1⟩ := bndJ_e h
    refine a_joinT (ι := ByteArray) (fun j => mk 39 [(0, pV 0), (2, pV 2), (3, pV 3), (4, iV r2.2)] [(0, [.bx [.fz (lC 1 eN_u8 r2.1.b), iC r2.1.i, iC r2.1.h]]), (2, [.bx [sC ((⟨#[]⟩ : ByteArray)), sC ((⟨#[]⟩ : ByteArray))]]), (3, [.bx [sC r1.2.lo, sC j]])]) (fun j => y1 = j) ?_ ?_
    · refine a_cond (b := (r2.2 == 0)) (by kernel_rfl) (fun h1 => ?_) (fun h1 => ?_)
      · replace h := cT h1 h
        refine a_run [0, 2, 3, 4] tyOK (st1 := mk 39 [(0, pV 0), (2, pV 2), (3, pV 3), (4, iV r2.2)] [(0, [.bx [.fz (lC 1 eN_u8 r2.1.b), iC r2.1.i, iC r2.1.h]]), (2, [.bx [sC ((⟨#[]⟩ : ByteArray)), sC ((⟨#[]⟩ : ByteArray))]]), (3, [.bx [sC r1.2.lo, sC r1.2.lo]])]) (by kernel_rfl) ?_
        obtain rfl := Option.some.inj h
        show ∃ _, _ ∧ Imp _ _ _
        refine ⟨_, rfl, ?_⟩
        exact imp_keepTo [0, 2, 3, 4] (by kernel_rfl) (imp_done rfl)
      · replace h := cF h1 h
        refine a_skip ?_
        obtain rfl := Option.some.inj h
        show ∃ _, _ ∧ Imp _ _ _
        refine ⟨_, rfl, ?_⟩
        exact imp_keepTo [0, 2, 3, 4] (by kernel_rfl) (imp_done rfl)
    intro j1 hj1
    replace h := ky1 _ hj1
    refine a_seq ?_
    refine a_seq ?_
    refine a_run [0, 2, 3, 4, 15] tyOK (st1 := mk 39 [(0, pV 0), (2, pV 2), (3, pV 3), (4, iV r2.2), (15, bV ((r2.2 == 1)))] [(0, [.bx [.fz (lC 1 eN_u8 r2.1.b), iC r2.1.i, iC r2.1.h]]), (2, [.bx [sC ((⟨#[]⟩ : ByteArray)), sC ((⟨#[]⟩ : ByteArray))]]), (3, [.bx [sC r1.2.lo, sC j1]])]) (by kernel_rfl) ?_
    obtain ⟨y2, h, ky2⟩ := bndJ_e h
    refine a_joinT (ι := Xs_l02AnyRange_2) (fun j => mk 39 [(0, pV 0), (2, pV 2), (3, pV 3), (4, iV r2.2)] [(0, [.bx [.fz (lC 1 eN_u8 j.w0_0_0), iC j.w0_0_1, iC j.w0_0_2]]), (2, [.bx [sC ((⟨#[]⟩ : ByteArray)), sC ((⟨#[]⟩ : ByteArray))]]), (3, [.bx [sC j.w3_0_0, sC j1]])]) (fun j => y2 = j) ?_ ?_
    · refine a_cond (b := (r2.2 == 1)) (by kernel_rfl) (fun h2 => ?_) (fun h2 => ?_)
      · replace h := cT h2 h
        refine a_ops [0, 1, 2, 3, 4, 5, 6] (by kernel_rfl) ?_
        refine ao_some [0] [1, 2, 3, 4, 5, 6] [0, 2, 3, 4, 16] tyOK (st1 := mk 39 [(0, pV 0), (2, pV 2), (3, pV 3), (4, iV r2.2), (16, pV 0)] [(0, [.bx [.fz (lC 1 eN_u8 r2.1.b), iC r2.1.i, iC r2.1.h]]), (2, [.bx [sC ((⟨#[]⟩ : ByteArray)), sC ((⟨#[]⟩ : ByteArray))]]), (3, [.bx [sC r1.2.lo, sC j1]])]) (by kernel_rfl) ?_
        obtain ⟨r3, er3, h⟩ := bnd_e h
        refine ao_g2 (g := 55) (d := 17) (A := [pV 0, iV 2]) (A' := [pV 0, iV 2]) (cs := [.bx [.fz (lC 1 eN_u8 r2.1.b), iC r2.1.i, iC r2.1.h]]) (outs := [.bx [.fz (lC 1 eN_u8 r3.1.b), iC r3.1.i, iC r3.1.h]]) (ps := [[(0, 0)]]) (st1 := mk 39 [(0, pV 0), (2, pV 2), (3, pV 3), (4, iV r2.2), (17, iV r3.2)] [(0, [.bx [.fz (lC 1 eN_u8 r3.1.b), iC r3.1.i, iC r3.1.h]]), (2, [.bx [sC ((⟨#[]⟩ : ByteArray)), sC ((⟨#[]⟩ : ByteArray))]]), (3, [.bx [sC r1.2.lo, sC j1]])]) [0, 2, 3, 4, 17] (k_s_l01Below r2.1 2 r3 er3) Try.call55 (by kernel_rfl) (.cons (.one (.pl 0 rfl rfl)) (.cons (.one (.same rfl)) .nil)) (handedN_of (szs := [0]) (by kernel_rfl)) (by kernel_rfl) (.bx .nil) (wholeFIO _ _ _ _) (by kernel_rfl) (by kernel_rfl) ?_
        refine ao_someM [2] [3, 4, 5, 6] tyOK (l1 := [(0, pV 0), (2, pV 2), (3, pV 3), (4, iV r2.2), (18, iV (IntKind.wrap .i64 (17 + r3.2)))]) (by kernel_rfl) ?_
        obtain ⟨c1, h⟩ := chk_e h
        refine ao_make (d := 19) (size := 1) (bytes := 1) (n := IntKind.wrap .i64 (17 + r3.2)) (c := IntKind.wrap .i64 (17 + r3.2)) (z := [.v (.int .u8 0)]) (rows' := (List.replicate (IntKind.wrap .i64 (17 + r3.2) : Int).toNat 0).map eN_u8) (st1 := mk 39 [(0, pV 0), (2, pV 2), (3, pV 3), (4, iV r2.2), (19, .one (.so [] 19 0 ((IntKind.wrap .i64 (17 + r3.2) : Int).toNat)))] [(0, [.bx [.fz (lC 1 eN_u8 r3.1.b), iC r3.1.i, iC r3.1.h]]), (2, [.bx [sC ((⟨#[]⟩ : ByteArray)), sC ((⟨#[]⟩ : ByteArray))]]), (3, [.bx [sC r1.2.lo, sC j1]]), (19, [lC 1 eN_u8 (List.replicate (IntKind.wrap .i64 (17 + r3.2) : Int).toNat 0)])]) [0, 2, 3, 4, 19] tyOK (by kernel_rfl) rfl c1.1 c1.2 (by kernel_rfl) (by simp [bC, eN_u8, frzC, iC, sC]) (by kernel_rfl) ?_
        obtain ⟨c2, h⟩ := chk_e h
        refine ao_string (d := 20) (n := ((IntKind.wrap .i64 (17 + r3.2) : Int).toNat)) (rows := (List.replicate (IntKind.wrap .i64 (17 + r3.2) : Int).toNat 0).map eN_u8) (s := strOfNums (List.replicate (IntKind.wrap .i64 (17 + r3.2) : Int).toNat 0)) (st1 := mk 39 [(0, pV 0), (2, pV 2), (3, pV 3), (4, iV r2.2), (20, sV (strOfNums (List.replicate (IntKind.wrap .i64 (17 + r3.2) : Int).toNat 0)))] [(0, [.bx [.fz (lC 1 eN_u8 r3.1.b), iC r3.1.i, iC r3.1.h]]), (2, [.bx [sC ((⟨#[]⟩ : ByteArray)), sC ((⟨#[]⟩ : ByteArray))]]), (3, [.bx [sC r1.2.lo, sC j1]])]) [0, 2, 3, 4, 20] tyOK (by kernel_rfl) (by simp) (byteRows_nums c2) (by kernel_rfl) ?_
        refine ao_some [5, 6] [] [0, 2, 3, 4] tyOK (st1 := mk 39 [(0, pV 0), (2, pV 2), (3, pV 3), (4, iV r2.2)] [(0, [.bx [.fz (lC 1 eN_u8 r3.1.b), iC r3.1.i, iC r3.1.h]]), (2, [.bx [sC ((⟨#[]⟩ : ByteArray)), sC ((⟨#[]⟩ : ByteArray))]]), (3, [.bx [sC (strOfNums (List.replicate (IntKind.wrap .i64 (17 + r3.2) : Int).toNat 0)), sC j1]])]) (by kernel_rfl) ?_
        refine ao_nil ?_
        obtain rfl := Option.some.inj h
        show ∃ _, _ ∧ Imp _ _ _
        refine ⟨_, rfl, ?_⟩
        exact imp_keepTo [0, 2, 3, 4] (by kernel_rfl) (imp_done rfl)
      · replace h := cF h2 h
        refine a_skip ?_
        obtain rfl := Option.some.inj h
        show ∃ _, _ ∧ Imp _ _ _
        refine ⟨_, rfl, ?_⟩
        exact imp_keepTo [0, 2, 3, 4] (by kernel_rfl) (imp_done rfl)
    intro j2 hj2
    replace h := ky2 _ hj2
    refine a_seq ?_
    refine a_seq ?_
    refine a_run [0, 2, 3, 4, 23] tyOK (st1 := mk 39 [(0, pV 0), (2, pV 2), (3, pV 3), (4, iV r2.2), (23, bV ((r2.2 == 2)))] [(0, [.bx [.fz (lC 1 eN_u8 j2.w0_0_0), iC j2.w0_0_1, iC j2.w0_0_2]]), (2, [.bx [sC ((⟨#[]⟩ : ByteArray)), sC ((⟨#[]⟩ : ByteArray))]]), (3, [.bx [sC j2.w3_0_0, sC j1]])]) (by kernel_rfl) ?_
    obtain ⟨y3, h, ky3⟩ := bndJ_e h
    refine a_joinT (ι := Xs_l02AnyRange_3) (fun j => mk 39 [(0, pV 0), (2, pV 2), (3, pV 3), (4, iV r2.2)] [(0, [.bx [.fz (lC 1 eN_u8 j.w0_0_0), iC j.w0_0_1, iC j.w0_0_2]]), (2, [.bx [sC ((⟨#[]⟩ : ByteArray)), sC ((⟨#[]⟩ : ByteArray))]]), (3, [.bx [sC j2.w3_0_0, sC j.w3_0_1]])]) (fun j => y3 = j) ?_ ?_
    · refine a_cond (b := (r2.2 == 2)) (by kernel_rfl) (fun h3 => ?_) (fun h3 => ?_)
      · replace h := cT h3 h
        refine a_ops [0, 1, 2, 3, 4, 5, 6, 7] (by kernel_rfl) ?_
        refine ao_some [0, 1] [2, 3, 4, 5, 6, 7] [0, 2, 3, 4, 24, 25] tyOK (st1 := mk 39 [(0, pV 0), (2, pV 2), (3, pV 3), (4, iV r2.2), (24, .one (.so [] 24 0 2)), (25, pV 0)] [(0, [.bx [.fz (lC 1 eN_u8 j2.w0_0_0), iC j2.w0_0_1, iC j2.w0_0_2]]), (2, [.bx [sC ((⟨#[]⟩ : ByteArray)), sC ((⟨#[]⟩ : ByteArray))]]), (3, [.bx [sC j2.w3_0_0, sC j1]]), (24, [.sl 1 ([[sC ((⟨#[]⟩ : ByteArray))], [sC ((⟨#[122]⟩ : ByteArray))]])])]) (by kernel_rfl) ?_
        obtain ⟨r4, er4, h⟩ := bnd_e h
        refine ao_g2 (g := 55) (d := 26) (A := [pV 0, iV 2]) (A' := [pV 0, iV 2]) (cs := [.bx [.fz (lC 1 eN_u8 j2.w0_0_0), iC j2.w0_0_1, iC j2.w0_0_2]]) (outs := [.bx [.fz (lC 1 eN_u8 r4.1.b), iC r4.1.i, iC r4.1.h]]) (ps := [[(0, 0)]]) (st1 := mk 39 [(0, pV 0), (2, pV 2), (3, pV 3), (4, iV r2.2), (24, .one (.so [] 24 0 2)), (26, iV r4.2)] [(0, [.bx [.fz (lC 1 eN_u8 r4.1.b), iC r4.1.i, iC r4.1.h]]), (2, [.bx [sC ((⟨#[]⟩ : ByteArray)), sC ((⟨#[]⟩ : ByteArray))]]), (3, [.bx [sC j2.w3_0_0, sC j1]]), (24, [.sl 1 ([[sC ((⟨#[]⟩ : ByteArray))], [sC ((⟨#[122]⟩ : ByteArray))]])])]) [0, 2, 3, 4, 24, 26] (k_s_l01Below ((⟨j2.w0_0_0, j2.w0_0_1, j2.w0_0_2⟩ : L01Cur)) 2 r4 er4) Try.call55 (by kernel_rfl) (.cons (.one (.pl 0 rfl rfl)) (.cons (.one (.same rfl)) .nil)) (handedN_of (szs := [0]) (by kernel_rfl)) (by kernel_rfl) (.bx .nil) (wholeFIO _ _ _ _) (by kernel_rfl) (by kernel_rfl) ?_
        obtain ⟨x1, ex1, h⟩ := bnd_e h
        refine ao_indexOwn (d := 27) (size := 1) (n0 := 2) (n := r4.2) (p := [(24, 0)]) (rows := [[sC ((⟨#[]⟩ : ByteArray))], [sC ((⟨#[122]⟩ : ByteArray))]]) (st1 := mk 39 [(0, pV 0), (2, pV 2), (3, pV 3), (4, iV r2.2), (27, .one (.pl [(24, 0)] ((r4.2).toNat) 0))] [(0, [.bx [.fz (lC 1 eN_u8 r4.1.b), iC r4.1.i, iC r4.1.h]]), (2, [.bx [sC ((⟨#[]⟩ : ByteArray)), sC ((⟨#[]⟩ : ByteArray))]]), (3, [.bx [sC j2.w3_0_0, sC j1]]), (24, [.sl 1 ([[sC ((⟨#[]⟩ : ByteArray))], [sC ((⟨#[122]⟩ : ByteArray))]])])]) [sC x1] [0, 2, 3, 4, 27] tyOK (by kernel_rfl) (by simpa using getI_both ex1) (by exact get_map (en := eStr) (getI_e ex1).2) (by kernel_rfl) (by kernel_rfl) ?_
        refine ao_P (d := 28) (op := .load 9 (.tmp 27)) (tv := sV x1) (st1 := mk 39 [(0, pV 0), (2, pV 2), (3, pV 3), (4, iV r2.2), (28, sV x1)] [(0, [.bx [.fz (lC 1 eN_u8 r4.1.b), iC r4.1.i, iC r4.1.h]]), (2, [.bx [sC ((⟨#[]⟩ : ByteArray)), sC ((⟨#[]⟩ : ByteArray))]]), (3, [.bx [sC j2.w3_0_0, sC j1]])]) [0, 2, 3, 4, 28] tyOK (by kernel_rfl) (stepP_loadOwn (size := 1) (n := ((r4.2).toNat)) (f := 0) (agg := false) (p := [(24, 0)]) (rows := [[sC ((⟨#[]⟩ : ByteArray))], [sC ((⟨#[122]⟩ : ByteArray))]]) [sC x1] (by kernel_rfl) (get_map (en := eStr) (getI_e ex1).2) (by kernel_rfl) (by kernel_rfl)) (by kernel_rfl) ?_
        obtain ⟨c3, h⟩ := chk_e h
        refine ao_q (d := 29) (c := (((⟨#[122, 122, 122, 122, 122, 122, 122, 122, 122, 122, 122, 122, 122, 122, 122, 122, 122]⟩ : ByteArray)).size + x1.size ≤ 140737488355328)) (tv := sV (((⟨#[122, 122, 122, 122, 122, 122, 122, 122, 122, 122, 122, 122, 122, 122, 122, 122, 122]⟩ : ByteArray)) ++ x1)) (st1 := mk 39 [(0, pV 0), (2, pV 2), (3, pV 3), (4, iV r2.2), (29, sV (((⟨#[122, 122, 122, 122, 122, 122, 122, 122, 122, 122, 122, 122, 122, 122, 122, 122, 122]⟩ : ByteArray)) ++ x1))] [(0, [.bx [.fz (lC 1 eN_u8 r4.1.b), iC r4.1.i, iC r4.1.h]]), (2, [.bx [sC ((⟨#[]⟩ : ByteArray)), sC ((⟨#[]⟩ : ByteArray))]]), (3, [.bx [sC j2.w3_0_0, sC j1]])]) [0, 2, 3, 4, 29] tyOK (by kernel_rfl) (by exact c3) (by kernel_rfl) ?_
        refine ao_some [6, 7] [] [0, 2, 3, 4] tyOK (st1 := mk 39 [(0, pV 0), (2, pV 2), (3, pV 3), (4, iV r2.2)] [(0, [.bx [.fz (lC 1 eN_u8 r4.1.b), iC r4.1.i, iC r4.1.h]]), (2, [.bx [sC ((⟨#[]⟩ : ByteArray)), sC ((⟨#[]⟩ : ByteArray))]]), (3, [.bx [sC j2.w3_0_0, sC (((⟨#[122, 122, 122, 122, 122, 122, 122, 122, 122, 122, 122, 122, 122, 122, 122, 122, 122]⟩ : ByteArray)) ++ x1)]])]) (by kernel_rfl) ?_
        refine ao_nil ?_
        obtain rfl := Option.some.inj h
        show ∃ _, _ ∧ Imp _ _ _
        refine ⟨_, rfl, ?_⟩
        exact imp_keepTo [0, 2, 3, 4] (by kernel_rfl) (imp_done rfl)
      · replace h := cF h3 h
        refine a_skip ?_
        obtain rfl := Option.some.inj h
        show ∃ _, _ ∧ Imp _ _ _
        refine ⟨_, rfl, ?_⟩
        exact imp_keepTo [0, 2, 3, 4] (by kernel_rfl) (imp_done rfl)
    intro j3 hj3
    replace h := ky3 _ hj3
    refine a_seq ?_
    refine a_seq ?_
    refine a_run [0, 2, 3, 32] tyOK (st1 := mk 39 [(0, pV 0), (2, pV 2), (3, pV 3), (32, bV ((r2.2 == 3)))] [(0, [.bx [.fz (lC 1 eN_u8 j3.w0_0_0), iC j3.w0_0_1, iC j3.w0_0_2]]), (2, [.bx [sC ((⟨#[]⟩ : ByteArray)), sC ((⟨#[]⟩ : ByteArray))]]), (3, [.bx [sC j2.w3_0_0, sC j3.w3_0_1]])]) (by kernel_rfl) ?_
    obtain ⟨y4, h, ky4⟩ := bndJ_e h
    refine a_joinT (ι := Xs_l02AnyRange_4) (fun j => mk 39 [(0, pV 0), (2, pV 2), (3, pV 3)] [(0, [.bx [.fz (lC 1 eN_u8 j3.w0_0_0), iC j3.w0_0_1, iC j3.w0_0_2]]), (2, [.bx [sC ((⟨#[]⟩ : ByteArray)), sC ((⟨#[]⟩ : ByteArray))]]), (3, [.bx [sC j.w3_0_0, sC j.w3_0_1]])]) (fun j => y4 = j) ?_ ?_
    · refine a_cond (b := (r2.2 == 3)) (by kernel_rfl) (fun h4 => ?_) (fun h4 => ?_)
      · replace h := cT h4 h
        refine a_run [0, 2, 3] tyOK (st1 := mk 39 [(0, pV 0), (2, pV 2), (3, pV 3)] [(0, [.bx [.fz (lC 1 eN_u8 j3.w0_0_0), iC j3.w0_0_1, iC j3.w0_0_2]]), (2, [.bx [sC ((⟨#[]⟩ : ByteArray)), sC ((⟨#[]⟩ : ByteArray))]]), (3, [.bx [sC j3.w3_0_1, sC j2.w3_0_0]])]) (by kernel_rfl) ?_
        obtain rfl := Option.some.inj h
        show ∃ _, _ ∧ Imp _ _ _
        refine ⟨_, rfl, ?_⟩
        exact imp_keepTo [0, 2, 3] (by kernel_rfl) (imp_done rfl)
      · replace h := cF h4 h
        refine a_skip ?_
        obtain rfl := Option.some.inj h
        show ∃ _, _ ∧ Imp _ _ _
        refine ⟨_, rfl, ?_⟩
        exact imp_keepTo [0, 2, 3] (by kernel_rfl) (imp_done rfl)
    intro j4 hj4
    replace h := ky4 _ hj4
    refine a_seq ?_
    refine a_run [0, 2] tyOK (st1 := mk 39 [(0, pV 0), (2, pV 2)] [(0, [.bx [.fz (lC 1 eN_u8 j3.w0_0_0), iC j3.w0_0_1, iC j3.w0_0_2]]), (2, [.bx [sC j4.w3_0_0, sC j4.w3_0_1]])]) (by kernel_rfl) ?_
    refine a_ret ?_
    obtain rfl := Option.some.inj h
    exact end_g (ob := []) (outs' := [.bx [.fz (lC 1 eN_u8 j3.w0_0_0), iC j3.w0_0_1, iC j3.w0_0_2]]) (res' := .agg [.c (sC j4.w3_0_0), .c (sC j4.w3_0_1)]) (row' := []) (by kernel_rfl) trivial (by first | rfl | simp) (by first | rfl | simp) (by first | rfl | simp)


end Go.Proofs.Ytagoajkiccgmjaa
namespace Go.Proofs.Ytagoajkiccgmjaa
open Go.Mv Go.RowKit
noncomputable def s_l01Raw (p0 : L01Cur) : Option (L01Cur × Int) :=
 bnd (s_l01Below p0 10) fun r1 =>
 bif (decide (r1.2 < 4)) then
 (bnd (s_l01Below r1.1 20) fun r2 =>
 some ((r2.1, r2.2)))
 else
 (bif ((r1.2 == 4)) then
 (bnd (s_l01Below r1.1 3) fun r3 =>
 some ((r3.1, IntKind.wrap .i64 (1099511627774 + r3.2))))
 else
 (bif ((r1.2 == 5)) then
 (bnd (s_l01Below r1.1 2) fun r4 =>
 some ((r4.1, IntKind.wrap .i64 ((-1) - r4.2))))
 else
 (bif ((r1.2 == 6)) then
 (bnd (s_l01Below r1.1 2) fun r5 =>
 some ((r5.1, IntKind.wrap .i64 (9223372036854775807 - r5.2))))
 else
 (bif ((r1.2 == 7)) then
 (bnd (s_l01Below r1.1 2) fun r6 =>
 some ((r6.1, IntKind.wrap .i64 ((-9223372036854775807) - r6.2))))
 else
 (bif ((r1.2 == 8)) then
 (bnd (s_l01Below r1.1 8) fun r7 =>
 bnd (getI ([127, 128, 16383, 16384, 255, 256, 4096, 4097]) r7.2) fun x1 =>
 some ((r7.1, x1)))
 else
 (bnd (s_l01Below r1.1 65536) fun r8 =>
 some ((r8.1, IntKind.wrap .i64 (r8.2 * 257)))))))))
set_option maxHeartbeats 4000000 in
/-- spec.l01Raw -/
theorem k_s_l01Raw (p0 : L01Cur) (v : L01Cur × Int) (h : s_l01Raw p0 = some v) : CallG Try.prog 100 [.bx [.fz (lC 1 eN_u8 p0.b), iC p0.i, iC p0.h]] [pV 0] [.bx [.fz (lC 1 eN_u8 v.1.b), iC v.1.i, iC v.1.h]] (iV v.2) [] :=
  callG tyOK Try.func100 rfl (by simp) fun w S γ hS => by
    unfold s_l01Raw at h
    refine a_seq ?_
    refine a_run [0] tyOK (st1 := mk 40 [(0, pV 0)] [(0, [.bx [.fz (lC 1 eN_u8 p0.b), iC p0.i, iC p0.h]])]) (by kernel_rfl) ?_
    refine a_seq ?_
    refine a_ops [0, 1, 2] (by kernel_rfl) ?_
    refine ao_someM [0] [1, 2] tyOK (l1 := [(0, pV 0), (4, pV 0)]) (by kernel_rfl) ?_
    obtain ⟨r1, er1, h⟩ := bnd_e h
    refine ao_g2 (g := 55) (d := 5) (A := [pV 0, iV 10]) (A' := [pV 0, iV 10]) (cs := [.bx [.fz (lC 1 eN_u8 p0.b), iC p0.i, iC p0.h]]) (outs := [.bx [.fz (lC 1 eN_u8 r1.1.b), iC r1.1.i, iC r1.1.h]]) (ps := [[(0, 0)]]) (st1 := mk 40 [(0, pV 0), (5, iV r1.2)] [(0, [.bx [.fz (lC 1 eN_u8 r1.1.b), iC r1.1.i, iC r1.1.h]])]) [0, 5] (k_s_l01Below p0 10 r1 er1) Try.call55 (by kernel_rfl) (.cons (.one (.pl 0 rfl rfl)) (.cons (.one (.same rfl)) .nil)) (handedN_of (szs := [0]) (by kernel_rfl)) (by kernel_rfl) (.bx .nil) (wholeFIO _ _ _ _) (by kernel_rfl) (by kernel_rfl) ?_
    refine ao_someM [2] [] tyOK (l1 := [(0, pV 0), (3, iV r1.2)]) (by kernel_rfl) ?_
    refine ao_nil ?_
    refine a_seq ?_
    refine a_seq ?_
    refine a_runM tyOK (l1 := [(0, pV 0), (3, iV r1.2), (7, bV (decide (r1.2 < 4)))]) (by kernel_rfl) ?_
    refine a_cond (b := decide (r1.2 < 4)) (by kernel_rfl) (fun h1 => ?_) (fun h1 => ?_)
    · replace h := cT h1 h
      refine a_seq ?_
      refine a_ops [0, 1, 2] (by kernel_rfl) ?_
      refine ao_someM [0] [1, 2] tyOK (l1 := [(0, pV 0), (8, pV 0)]) (by kernel_rfl) ?_
      obtain ⟨r2, er2, h⟩ := bnd_e h
      refine ao_g2 (g := 55) (d := 9) (A := [pV 0, iV 20]) (A' := [pV 0, iV 20]) (cs := [.bx [.fz (lC 1 eN_u8 r1.1.b), iC r1.1.i, iC r1.1.h]]) (outs := [.bx [.fz (lC 1 eN_u8 r2.1.b), iC r2.1.i, iC r2.1.h]]) (ps := [[(0, 0)]]) (st1 := mk 40 [(0, pV 0), (9, iV r2.2)] [(0, [.bx [.fz (lC 1 eN_u8 r2.1.b), iC r2.1.i, iC r2.1.h]])]) [0, 9] (k_s_l01Below r1.1 20 r2 er2) Try.call55 (by kernel_rfl) (.cons (.one (.pl 0 rfl rfl)) (.cons (.one (.same rfl)) .nil)) (handedN_of (szs := [0]) (by kernel_rfl)) (by kernel_rfl) (.bx .nil) (wholeFIO _ _ _ _) (by kernel_rfl) (by kernel_rfl) ?_
      refine ao_someM [2] [] tyOK (l1 := [(0, pV 0), (2, iV r2.2)]) (by kernel_rfl) ?_
      refine ao_nil ?_
      refine a_ret ?_
      obtain rfl := Option.some.inj h
      exact end_g (ob := []) (outs' := [.bx [.fz (lC 1 eN_u8 r2.1.b), iC r2.1.i, iC r2.1.h]]) (res' := iV r2.2) (row' := []) (by kernel_rfl) trivial (by first | rfl | simp) (by first | rfl | simp) (by first | rfl | simp)
    · replace h := cF h1 h
      refine a_skip ?_
      refine a_seq ?_
      refine a_seq ?_
      refine a_runM tyOK (l1 := [(0, pV 0), (3, iV r1.2), (11, bV ((r1.2 == 4)))]) (by kernel_rfl) ?_
      refine a_cond (b := (r1.2 == 4)) (by kernel_rfl) (fun h2 => ?_) (fun h2 => ?_)
      · replace h := cT h2 h
        refine a_seq ?_
        refine a_ops [0, 1, 2, 3] (by kernel_rfl) ?_
        refine ao_someM [0] [1, 2, 3] tyOK (l1 := [(0, pV 0), (12, pV 0)]) (by kernel_rfl) ?_
        obtain ⟨r3, er3, h⟩ := bnd_e h
        refine ao_g2 (g := 55) (d := 13) (A := [pV 0, iV 3]) (A' := [pV 0, iV 3]) (cs := [.bx [.fz (lC 1 eN_u8 r1.1.b), iC r1.1.i, iC r1.1.h]]) (outs := [.bx [.fz (lC 1 eN_u8 r3.1.b), iC r3.1.i, iC r3.1.h]]) (ps := [[(0, 0)]]) (st1 := mk 40 [(0, pV 0), (13, iV r3.2)] [(0, [.bx [.fz (lC 1 eN_u8 r3.1.b), iC r3.1.i, iC r3.1.h]])]) [0, 13] (k_s_l01Below r1.1 3 r3 er3) Try.call55 (by kernel_rfl) (.cons (.one (.pl 0 rfl rfl)) (.cons (.one (.same rfl)) .nil)) (handedN_of (szs := [0]) (by kernel_rfl)) (by kernel_rfl) (.bx .nil) (wholeFIO _ _ _ _) (by kernel_rfl) (by kernel_rfl) ?_
        refine ao_someM [2, 3] [] tyOK (l1 := [(0, pV 0), (2, iV (IntKind.wrap .i64 (1099511627774 + r3.2)))]) (by kernel_rfl) ?_
        refine ao_nil ?_
        refine a_ret ?_
        obtain rfl := Option.some.inj h
        exact end_g (ob := []) (outs' := [.bx [.fz (lC 1 eN_u8 r3.1.b), iC r3.1.i, iC r3.1.h]]) (res' := iV (IntKind.wrap .i64 (1099511627774 + r3.2))) (row' := []) (by kernel_rfl) trivial (by first | rfl | simp) (by first | rfl | simp) (by first | rfl | simp)
      · replace h := cF h2 h
        refine a_skip ?_
        refine a_seq ?_
        refine a_seq ?_
        refine a_runM tyOK (l1 := [(0, pV 0), (3, iV r1.2), (16, bV ((r1.2 == 5)))]) (by kernel_rfl) ?_
        refine a_cond (b := (r1.2 == 5)) (by kernel_rfl) (fun h3 => ?_) (fun h3 => ?_)
        · replace h := cT h3 h
          refine a_seq ?_
          refine a_ops [0, 1, 2, 3] (by kernel_rfl) ?_
          refine ao_someM [0] [1, 2, 3] tyOK (l1 := [(0, pV 0), (17, pV 0)]) (by kernel_rfl) ?_
          obtain ⟨r4, er4, h⟩ := bnd_e h
          refine ao_g2 (g := 55) (d := 18) (A := [pV 0, iV 2]) (A' := [pV 0, iV 2]) (cs := [.bx [.fz (lC 1 eN_u8 r1.1.b), iC r1.1.i, iC r1.1.h]]) (outs := [.bx [.fz (lC 1 eN_u8 r4.1.b), iC r4.1.i, iC r4.1.h]]) (ps := [[(0, 0)]]) (st1 := mk 40 [(0, pV 0), (18, iV r4.2)] [(0, [.bx [.fz (lC 1 eN_u8 r4.1.b), iC r4.1.i, iC r4.1.h]])]) [0, 18] (k_s_l01Below r1.1 2 r4 er4) Try.call55 (by kernel_rfl) (.cons (.one (.pl 0 rfl rfl)) (.cons (.one (.same rfl)) .nil)) (handedN_of (szs := [0]) (by kernel_rfl)) (by kernel_rfl) (.bx .nil) (wholeFIO _ _ _ _) (by kernel_rfl) (by kernel_rfl) ?_
          refine ao_someM [2, 3] [] tyOK (l1 := [(0, pV 0), (2, iV (IntKind.wrap .i64 ((-1) - r4.2)))]) (by kernel_rfl) ?_
          refine ao_nil ?_
          refine a_ret ?_
          obtain rfl := Option.some.inj h
          exact end_g (ob := []) (outs' := [.bx [.fz (lC 1 eN_u8 r4.1.b), iC r4.1.i, iC r4.1.h]]) (res' := iV (IntKind.wrap .i64 ((-1) - r4.2))) (row' := []) (by kernel_rfl) trivial (by first | rfl | simp) (by first | rfl | simp) (by first | rfl | simp)
        · replace h := cF h3 h
          refine a_skip ?_
          refine a_seq ?_
          refine a_seq ?_
          refine a_runM tyOK (l1 := [(0, pV 0), (3, iV r1.2), (21, bV ((r1.2 == 6)))]) (by kernel_rfl) ?_
          refine a_cond (b := (r1.2 == 6)) (by kernel_rfl) (fun h4 => ?_) (fun h4 => ?_)
          · replace h := cT h4 h
            refine a_seq ?_
            refine a_ops [0, 1, 2, 3] (by kernel_rfl) ?_
            refine ao_someM [0] [1, 2, 3] tyOK (l1 := [(0, pV 0), (22, pV 0)]) (by kernel_rfl) ?_
            obtain ⟨r5, er5, h⟩ := bnd_e h
            refine ao_g2 (g := 55) (d := 23) (A := [pV 0, iV 2]) (A' := [pV 0, iV 2]) (cs := [.bx [.fz (lC 1 eN_u8 r1.1.b), iC r1.1.i, iC r1.1.h]]) (outs := [.bx [.fz (lC 1 eN_u8 r5.1.b), iC r5.1.i, iC r5.1.h]]) (ps := [[(0, 0)]]) (st1 := mk 40 [(0, pV 0), (23, iV r5.2)] [(0, [.bx [.fz (lC 1 eN_u8 r5.1.b), iC r5.1.i, iC r5.1.h]])]) [0, 23] (k_s_l01Below r1.1 2 r5 er5) Try.call55 (by kernel_rfl) (.cons (.one (.pl 0 rfl rfl)) (.cons (.one (.same rfl)) .nil)) (handedN_of (szs := [0]) (by kernel_rfl)) (by kernel_rfl) (.bx .nil) (wholeFIO _ _ _ _) (by kernel_rfl) (by kernel_rfl) ?_
            refine ao_someM [2, 3] [] tyOK (l1 := [(0, pV 0), (2, iV (IntKind.wrap .i64 (9223372036854775807 - r5.2)))]) (by kernel_rfl) ?_
            refine ao_nil ?_
            refine a_ret ?_
            obtain rfl := Option.some.inj h
            exact end_g (ob := []) (outs' := [.bx [.fz (lC 1 eN_u8 r5.1.b), iC r5.1.i, iC r5.1.h]]) (res' := iV (IntKind.wrap .i64 (9223372036854775807 - r5.2))) (row' := []) (by kernel_rfl) trivial (by first | rfl | simp) (by first | rfl | simp) (by first | rfl | simp)
          · replace h := cF h4 h
            refine a_skip ?_
            refine a_seq ?_
            refine a_seq ?_
            refine a_runM tyOK (l1 := [(0, pV 0), (3, iV r1.2), (26, bV ((r1.2 == 7)))]) (by kernel_rfl) ?_
            refine a_cond (b := (r1.2 == 7)) (by kernel_rfl) (fun h5 => ?_) (fun h5 => ?_)
            · replace h := cT h5 h
              refine a_seq ?_
              refine a_ops [0, 1, 2, 3] (by kernel_rfl) ?_
              refine ao_someM [0] [1, 2, 3] tyOK (l1 := [(0, pV 0), (27, pV 0)]) (by kernel_rfl) ?_
              obtain ⟨r6, er6, h⟩ := bnd_e h
              refine ao_g2 (g := 55) (d := 28) (A := [pV 0, iV 2]) (A' := [pV 0, iV 2]) (cs := [.bx [.fz (lC 1 eN_u8 r1.1.b), iC r1.1.i, iC r1.1.h]]) (outs := [.bx [.fz (lC 1 eN_u8 r6.1.b), iC r6.1.i, iC r6.1.h]]) (ps := [[(0, 0)]]) (st1 := mk 40 [(0, pV 0), (28, iV r6.2)] [(0, [.bx [.fz (lC 1 eN_u8 r6.1.b), iC r6.1.i, iC r6.1.h]])]) [0, 28] (k_s_l01Below r1.1 2 r6 er6) Try.call55 (by kernel_rfl) (.cons (.one (.pl 0 rfl rfl)) (.cons (.one (.same rfl)) .nil)) (handedN_of (szs := [0]) (by kernel_rfl)) (by kernel_rfl) (.bx .nil) (wholeFIO _ _ _ _) (by kernel_rfl) (by kernel_rfl) ?_
              refine ao_someM [2, 3] [] tyOK (l1 := [(0, pV 0), (2, iV (IntKind.wrap .i64 ((-9223372036854775807) - r6.2)))]) (by kernel_rfl) ?_
              refine ao_nil ?_
              refine a_ret ?_
              obtain rfl := Option.some.inj h
              exact end_g (ob := []) (outs' := [.bx [.fz (lC 1 eN_u8 r6.1.b), iC r6.1.i, iC r6.1.h]]) (res' := iV (IntKind.wrap .i64 ((-9223372036854775807) - r6.2))) (row' := []) (by kernel_rfl) trivial (by first | rfl | simp) (by first | rfl | simp) (by first | rfl | simp)
            · replace h := cF h5 h
              refine a_skip ?_
              refine a_seq ?_
              refine a_seq ?_
              refine a_runM tyOK (l1 := [(0, pV 0), (31, bV ((r1.2 == 8)))]) (by kernel_rfl) ?_
              refine a_cond (b := (r1.2 == 8)) (by kernel_rfl) (fun h6 => ?_) (fun h6 => ?_)
              · replace h := cT h6 h
                refine a_seq ?_
                refine a_ops [0, 1, 2, 3, 4, 5] (by kernel_rfl) ?_
                refine ao_some [0, 1] [2, 3, 4, 5] [0, 32, 33] tyOK (st1 := mk 40 [(0, pV 0), (32, .one (.so [] 32 0 8)), (33, pV 0)] [(0, [.bx [.fz (lC 1 eN_u8 r1.1.b), iC r1.1.i, iC r1.1.h]]), (32, [.sl 1 ([[iC 127], [iC 128], [iC 16383], [iC 16384], [iC 255], [iC 256], [iC 4096], [iC 4097]])])]) (by kernel_rfl) ?_
                obtain ⟨r7, er7, h⟩ := bnd_e h
                refine ao_g2 (g := 55) (d := 34) (A := [pV 0, iV 8]) (A' := [pV 0, iV 8]) (cs := [.bx [.fz (lC 1 eN_u8 r1.1.b), iC r1.1.i, iC r1.1.h]]) (outs := [.bx [.fz (lC 1 eN_u8 r7.1.b), iC r7.1.i, iC r7.1.h]]) (ps := [[(0, 0)]]) (st1 := mk 40 [(0, pV 0), (32, .one (.so [] 32 0 8)), (34, iV r7.2)] [(0, [.bx [.fz (lC 1 eN_u8 r7.1.b), iC r7.1.i, iC r7.1.h]]), (32, [.sl 1 ([[iC 127], [iC 128], [iC 16383], [iC 16384], [iC 255], [iC 256], [iC 4096], [iC 4097]])])]) [0, 32, 34] (k_s_l01Below r1.1 8 r7 er7) Try.call55 (by kernel_rfl) (.cons (.one (.pl 0 rfl rfl)) (.cons (.one (.same rfl)) .nil)) (handedN_of (szs := [0]) (by kernel_rfl)) (by kernel_rfl) (.bx .nil) (wholeFIO _ _ _ _) (by kernel_rfl) (by kernel_rfl) ?_
                obtain ⟨x1, ex1, h⟩ := bnd_e h
                refine ao_indexOwn (d := 35) (size := 1) (n0 := 8) (n := r7.2) (p := [(32, 0)]) (rows := [[iC 127], [iC 128], [iC 16383], [iC 16384], [iC 255], [iC 256], [iC 4096], [iC 4097]]) (st1 := mk 40 [(0, pV 0), (35, .one (.pl [(32, 0)] ((r7.2).toNat) 0))] [(0, [.bx [.fz (lC 1 eN_u8 r7.1.b), iC r7.1.i, iC r7.1.h]]), (32, [.sl 1 ([[iC 127], [iC 128], [iC 16383], [iC 16384], [iC 255], [iC 256], [iC 4096], [iC 4097]])])]) [iC x1] [0, 35] tyOK (by kernel_rfl) (by simpa using getI_both ex1) (by exact get_map (en := eInt) (getI_e ex1).2) (by kernel_rfl) (by kernel_rfl) ?_
                refine ao_P (d := 36) (op := .load 3 (.tmp 35)) (tv := iV x1) (st1 := mk 40 [(0, pV 0), (36, iV x1)] [(0, [.bx [.fz (lC 1 eN_u8 r7.1.b), iC r7.1.i, iC r7.1.h]])]) [0, 36] tyOK (by kernel_rfl) (stepP_loadOwn (size := 1) (n := ((r7.2).toNat)) (f := 0) (agg := false) (p := [(32, 0)]) (rows := [[iC 127], [iC 128], [iC 16383], [iC 16384], [iC 255], [iC 256], [iC 4096], [iC 4097]]) [iC x1] (by kernel_rfl) (get_map (en := eInt) (getI_e ex1).2) (by kernel_rfl) (by kernel_rfl)) (by kernel_rfl) ?_
                refine ao_someM [5] [] tyOK (l1 := [(0, pV 0), (2, iV x1)]) (by kernel_rfl) ?_
                refine ao_nil ?_
                refine a_ret ?_
                obtain rfl := Option.some.inj h
                exact end_g (ob := []) (outs' := [.bx [.fz (lC 1 eN_u8 r7.1.b), iC r7.1.i, iC r7.1.h]]) (res' := iV x1) (row' := []) (by kernel_rfl) trivial (by first | rfl | simp) (by first | rfl | simp) (by first | rfl | simp)
              · replace h := cF h6 h
                refine a_skip ?_
                refine a_seq ?_
                refine a_ops [0, 1, 2, 3] (by kernel_rfl) ?_
                refine ao_someM [0] [1, 2, 3] tyOK (l1 := [(0, pV 0), (37, pV 0)]) (by kernel_rfl) ?_
                obtain ⟨r8, er8, h⟩ := bnd_e h
                refine ao_g2 (g := 55) (d := 38) (A := [pV 0, iV 65536]) (A' := [pV 0, iV 65536]) (cs := [.bx [.fz (lC 1 eN_u8 r1.1.b), iC r1.1.i, iC r1.1.h]]) (outs := [.bx [.fz (lC 1 eN_u8 r8.1.b), iC r8.1.i, iC r8.1.h]]) (ps := [[(0, 0)]]) (st1 := mk 40 [(0, pV 0), (38, iV r8.2)] [(0, [.bx [.fz (lC 1 eN_u8 r8.1.b), iC r8.1.i, iC r8.1.h]])]) [0, 38] (k_s_l01Below r1.1 65536 r8 er8) Try.call55 (by kernel_rfl) (.cons (.one (.pl 0 rfl rfl)) (.cons (.one (.same rfl)) .nil)) (handedN_of (szs := [0]) (by kernel_rfl)) (by kernel_rfl) (.bx .nil) (wholeFIO _ _ _ _) (by kernel_rfl) (by kernel_rfl) ?_
                refine ao_someM [2, 3] [] tyOK (l1 := [(0, pV 0), (2, iV (IntKind.wrap .i64 (r8.2 * 257)))]) (by kernel_rfl) ?_
                refine ao_nil ?_
                refine a_ret ?_
                obtain rfl := Option.some.inj h
                exact end_g (ob := []) (outs' := [.bx [.fz (lC 1 eN_u8 r8.1.b), iC r8.1.i, iC r8.1.h]]) (res' := iV (IntKind.wrap .i64 (r8.2 * 257))) (row' := []) (by kernel_rfl) trivial (by first | rfl | simp) (by first | rfl | simp) (by first | rfl | simp)


end Go.Proofs.Ytagoajkiccgmjaa
namespace Go.Proofs.Ytagoajkiccgmjaa
open Go.Mv Go.RowKit
structure Xs_l07AnyTx_1 where
  w0_0_0 : (List Int)
  w0_0_1 : Int
  w0_0_2 : Int
  w3_0_0 : Int

structure Xs_l07AnyTx_2 where
  w0_0_0 : (List Int)
  w0_0_1 : Int
  w0_0_2 : Int
  w3_0_1 : Int

structure Xs_l07AnyTx_3 where
  w0_0_0 : (List Int)
  w0_0_1 : Int
  w0_0_2 : Int
  w3_0_2 : Int

noncomputable def s_l07AnyTx (p0 : L01Cur) : Option (L01Cur × Tx) :=
 bnd (s_l07Tx p0) fun r1 =>
 bnd (s_l01Below r1.1 12) fun r2 =>
 bnd (bif ((r2.2 == 0)) then
 (bnd (s_l01Raw r2.1) fun r3 =>
 bnd (s_l01Below r3.1 4) fun r4 =>
 bnd (getI ([7, 8, -1, r3.2]) r4.2) fun x1 =>
 some ((⟨r4.1.b, r4.1.i, r4.1.h, x1⟩ : Xs_l07AnyTx_1)))
 else
 (some ((⟨r2.1.b, r2.1.i, r2.1.h, r1.2.c⟩ : Xs_l07AnyTx_1)))) fun j1 =>
 bnd (bif ((r2.2 == 1)) then
 (bnd (s_l01Raw ((⟨j1.w0_0_0, j1.w0_0_1, j1.w0_0_2⟩ : L01Cur))) fun r5 =>
 bnd (s_l01Below r5.1 4) fun r6 =>
 bnd (getI ([0, 999, 1000, r5.2]) r6.2) fun x2 =>
 some ((⟨r6.1.b, r6.1.i, r6.1.h, x2⟩ : Xs_l07AnyTx_2)))
 else
 (some ((⟨j1.w0_0_0, j1.w0_0_1, j1.w0_0_2, r1.2.e⟩ : Xs_l07AnyTx_2)))) fun j2 =>
 bnd (bif ((r2.2 == 2)) then
 (bnd (s_l01Raw ((⟨j2.w0_0_0, j2.w0_0_1, j2.w0_0_2⟩ : L01Cur))) fun r7 =>
 bnd (s_l01Below r7.1 4) fun r8 =>
 bnd (getI ([0, 999, 1000, r7.2]) r8.2) fun x3 =>
 some ((⟨r8.1.b, r8.1.i, r8.1.h, x3⟩ : Xs_l07AnyTx_3)))
 else
 (some ((⟨j2.w0_0_0, j2.w0_0_1, j2.w0_0_2, r1.2.n⟩ : Xs_l07AnyTx_3)))) fun j3 =>
 some (((⟨j3.w0_0_0, j3.w0_0_1, j3.w0_0_2⟩ : L01Cur), (⟨j1.w3_0_0, j2.w3_0_1, j3.w3_0_2⟩ : Tx)))
set_option maxHeartbeats 4000000 in
/-- spec.l07AnyTx -/
theorem k_s_l07AnyTx (p0 : L01Cur) (v : L01Cur × Tx) (h : s_l07AnyTx p0 = some v) : CallG Try.prog 56 [.bx [.fz (lC 1 eN_u8 p0.b), iC p0.i, iC p0.h]] [pV 0] [.bx [.fz (lC 1 eN_u8 v.1.b), iC v.1.i, iC v.1.h]] (.agg [.c (iC v.2.c), .c (iC v.2.e), .c (iC v.2.n)]) [] :=
  callG tyOK Try.func56 rfl (by simp) fun w S γ hS => by
    unfold s_l07AnyTx at h
    refine a_seq ?_
    refine a_run [0, 2] tyOK (st1 := mk 40 [(0, pV 0), (2, pV 2)] [(0, [.bx [.fz (lC 1 eN_u8 p0.b), iC p0.i, iC p0.h]]), (2, [.bx [iC 0, iC 0, iC 0]])]) (by kernel_rfl) ?_
    refine a_seq ?_
    refine a_ops [0, 1, 2, 3] (by kernel_rfl) ?_
    refine ao_someM [0] [1, 2, 3] tyOK (l1 := [(0, pV 0), (2, pV 2), (5, pV 0)]) (by kernel_rfl) ?_
    obtain ⟨r1, er1, h⟩ := bnd_e h
    refine ao_g2 (g := 97) (d := 6) (A := [pV 0]) (A' := [pV 0]) (cs := [.bx [.fz (lC 1 eN_u8 p0.b), iC p0.i, iC p0.h]]) (outs := [.bx [.fz (lC 1 eN_u8 r1.1.b), iC r1.1.i, iC r1.1.h]]) (ps := [[(0, 0)]]) (st1 := mk 40 [(0, pV 0), (2, pV 2), (6, .agg [.c (iC r1.2.c), .c (iC r1.2.e), .c (iC r1.2.n)])] [(0, [.bx [.fz (lC 1 eN_u8 r1.1.b), iC r1.1.i, iC r1.1.h]]), (2, [.bx [iC 0, iC 0, iC 0]])]) [0, 2, 6] (k_s_l07Tx p0 r1 er1) Try.call97 (by kernel_rfl) (.cons (.one (.pl 0 rfl rfl)) .nil) (handedN_of (szs := [0]) (by kernel_rfl)) (by kernel_rfl) (.bx .nil) (wholeFIO _ _ _ _) (by kernel_rfl) (by kernel_rfl) ?_
    refine ao_some [2, 3] [] [0, 2, 3] tyOK (st1 := mk 40 [(0, pV 0), (2, pV 2), (3, pV 3)] [(0, [.bx [.fz (lC 1 eN_u8 r1.1.b), iC r1.1.i, iC r1.1.h]]), (2, [.bx [iC 0, iC 0, iC 0]]), (3, [.bx [iC r1.2.c, iC r1.2.e, iC r1.2.n]])]) (by kernel_rfl) ?_
    refine ao_nil ?_
    refine a_seq ?_
    refine a_ops [0, 1, 2] (by kernel_rfl) ?_
    refine ao_someM [0] [1, 2] tyOK (l1 := [(0, pV 0), (2, pV 2), (3, pV 3), (7, pV 0)]) (by kernel_rfl) ?_
    obtain ⟨r2, er2, h⟩ := bnd_e h
    refine ao_g2 (g := 55) (d := 8) (A := [pV 0, iV 12]) (A' := [pV 0, iV 12]) (cs := [.bx [.fz (lC 1 eN_u8 r1.1.b), iC r1.1.i, iC r1.1.h]]) (outs := [.bx [.fz (lC 1 eN_u8 r2.1.b), iC r2.1.i, iC r2.1.h]]) (ps := [[(0, 0)]]) (st1 := mk 40 [(0, pV 0), (2, pV 2), (3, pV 3), (8, iV r2.2)] [(0, [.bx [.fz (lC 1 eN_u8 r2.1.b), iC r2.1.i, iC r2.1.h]]), (2, [.bx [iC 0, iC 0, iC 0]]), (3, [.bx [iC r1.2.c, iC r1.2.e, iC r1.2.n]])]) [0, 2, 3, 8] (k_s_l01Below r1.1 12 r2 er2) Try.call55 (by kernel_rfl) (.cons (.one (.pl 0 rfl rfl)) (.cons (.one (.same rfl)) .nil)) (handedN_of (szs := [0]) (by kernel_rfl)) (by kernel_rfl) (.bx .nil) (wholeFIO _ _ _ _) (by kernel_rfl) (by kernel_rfl) ?_
    refine ao_someM [2] [] tyOK (l1 := [(0, pV 0), (2, pV 2), (3, pV 3), (4, iV r2.2)]) (by kernel_rfl) ?_
    refine ao_nil ?_
    refine a_seq ?_
    refine a_seq ?_
    refine a_runM tyOK (l1 := [(0, pV 0), (2, pV 2), (3, pV 3), (4, iV r2.2), (10, bV ((r2.2 == 0)))]) (by kernel_rfl) ?_
    obtain ⟨y1, h, ky1⟩ := bndJ_e h
    refine a_joinT (ι := Xs_l07AnyTx_1) (fun j => mk 40 [(0, pV 0), (2, pV 2), (3, pV 3), (4, iV r2.2)] [(0, [.bx [.fz (lC 1 eN_u8 j.w0_0_0), iC j.w0_0_1, iC j.w0_0_2]]), (2, [.bx [iC 0, iC 0, iC 0]]), (3, [.bx [iC j.w3_0_0, iC r1.2.e, iC r1.2.n]])]) (fun j => y1 = j) ?_ ?_
    · refine a_cond (b := (r2.2 == 0)) (by kernel_rfl) (fun h1 => ?_) (fun h1 => ?_)
      · replace h := cT h1 h
        refine a_ops [0, 1, 2, 3, 4, 5, 6, 7, 8] (by kernel_rfl) ?_
        refine ao_some [0] [1, 2, 3, 4, 5, 6, 7, 8] [0, 2, 3, 4, 11] tyOK (st1 := mk 40 [(0, pV 0), (2, pV 2), (3, pV 3), (4, iV r2.2), (11, pV 0)] [(0, [.bx [.fz (lC 1 eN_u8 r2.1.b), iC r2.1.i, iC r2.1.h]]), (2, [.bx [iC 0, iC 0, iC 0]]), (3, [.bx [iC r1.2.c, iC r1.2.e, iC r1.2.n]])]) (by kernel_rfl) ?_
        obtain ⟨r3, er3, h⟩ := bnd_e h
        refine ao_g2 (g := 100) (d := 12) (A := [pV 0]) (A' := [pV 0]) (cs := [.bx [.fz (lC 1 eN_u8 r2.1.b), iC r2.1.i, iC r2.1.h]]) (outs := [.bx [.fz (lC 1 eN_u8 r3.1.b), iC r3.1.i, iC r3.1.h]]) (ps := [[(0, 0)]]) (st1 := mk 40 [(0, pV 0), (2, pV 2), (3, pV 3), (4, iV r2.2), (12, iV r3.2)] [(0, [.bx [.fz (lC 1 eN_u8 r3.1.b), iC r3.1.i, iC r3.1.h]]), (2, [.bx [iC 0, iC 0, iC 0]]), (3, [.bx [iC r1.2.c, iC r1.2.e, iC r1.2.n]])]) [0, 2, 3, 4, 12] (k_s_l01Raw r2.1 r3 er3) Try.call100 (by kernel_rfl) (.cons (.one (.pl 0 rfl rfl)) .nil) (handedN_of (szs := [0]) (by kernel_rfl)) (by kernel_rfl) (.bx .nil) (wholeFIO _ _ _ _) (by kernel_rfl) (by kernel_rfl) ?_
        refine ao_some [2, 3] [4, 5, 6, 7, 8] [0, 2, 3, 4, 13, 14] tyOK (st1 := mk 40 [(0, pV 0), (2, pV 2), (3, pV 3), (4, iV r2.2), (13, .one (.so [] 13 0 4)), (14, pV 0)] [(0, [.bx [.fz (lC 1 eN_u8 r3.1.b), iC r3.1.i, iC r3.1.h]]), (2, [.bx [iC 0, iC 0, iC 0]]), (3, [.bx [iC r1.2.c, iC r1.2.e, iC r1.2.n]]), (13, [.sl 1 ([[iC 7], [iC 8], [iC (-1)], [iC r3.2]])])]) (by kernel_rfl) ?_
        obtain ⟨r4, er4, h⟩ := bnd_e h
        refine ao_g2 (g := 55) (d := 15) (A := [pV 0, iV 4]) (A' := [pV 0, iV 4]) (cs := [.bx [.fz (lC 1 eN_u8 r3.1.b), iC r3.1.i, iC r3.1.h]]) (outs := [.bx [.fz (lC 1 eN_u8 r4.1.b), iC r4.1.i, iC r4.1.h]]) (ps := [[(0, 0)]]) (st1 := mk 40 [(0, pV 0), (2, pV 2), (3, pV 3), (4, iV r2.2), (13, .one (.so [] 13 0 4)), (15, iV r4.2)] [(0, [.bx [.fz (lC 1 eN_u8 r4.1.b), iC r4.1.i, iC r4.1.h]]), (2, [.bx [iC 0, iC 0, iC 0]]), (3, [.bx [iC r1.2.c, iC r1.2.e, iC r1.2.n]]), (13, [.sl 1 ([[iC 7], [iC 8], [iC (-1)], [iC r3.2]])])]) [0, 2, 3, 4, 13, 15] (k_s_l01Below r3.1 4 r4 er4) Try.call55 (by kernel_rfl) (.cons (.one (.pl 0 rfl rfl)) (.cons (.one (.same rfl)) .nil)) (handedN_of (szs := [0]) (by kernel_rfl)) (by kernel_rfl) (.bx .nil) (wholeFIO _ _ _ _) (by kernel_rfl) (by kernel_rfl) ?_
        obtain ⟨x1, ex1, h⟩ := bnd_e h
        refine ao_indexOwn (d := 16) (size := 1) (n0 := 4) (n := r4.2) (p := [(13, 0)]) (rows := [[iC 7], [iC 8], [iC (-1)], [iC r3.2]]) (st1 := mk 40 [(0, pV 0), (2, pV 2), (3, pV 3), (4, iV r2.2), (16, .one (.pl [(13, 0)] ((r4.2).toNat) 0))] [(0, [.bx [.fz (lC 1 eN_u8 r4.1.b), iC r4.1.i, iC r4.1.h]]), (2, [.bx [iC 0, iC 0, iC 0]]), (3, [.bx [iC r1.2.c, iC r1.2.e, iC r1.2.n]]), (13, [.sl 1 ([[iC 7], [iC 8], [iC (-1)], [iC r3.2]])])]) [iC x1] [0, 2, 3, 4, 16] tyOK (by kernel_rfl) (by simpa using getI_both ex1) (by exact get_map (en := eInt) (getI_e ex1).2) (by kernel_rfl) (by kernel_rfl) ?_
        refine ao_P (d := 17) (op := .load 3 (.tmp 16)) (tv := iV x1) (st1 := mk 40 [(0, pV 0), (2, pV 2), (3, pV 3), (4, iV r2.2), (17, iV x1)] [(0, [.bx [.fz (lC 1 eN_u8 r4.1.b), iC r4.1.i, iC r4.1.h]]), (2, [.bx [iC 0, iC 0, iC 0]]), (3, [.bx [iC r1.2.c, iC r1.2.e, iC r1.2.n]])]) [0, 2, 3, 4, 17] tyOK (by kernel_rfl) (stepP_loadOwn (size := 1) (n := ((r4.2).toNat)) (f := 0) (agg := false) (p := [(13, 0)]) (rows := [[iC 7], [iC 8], [iC (-1)], [iC r3.2]]) [iC x1] (by kernel_rfl) (get_map (en := eInt) (getI_e ex1).2) (by kernel_rfl) (by kernel_rfl)) (by kernel_rfl) ?_
        refine ao_some [7, 8] [] [0, 2, 3, 4] tyOK (st1 := mk 40 [(0, pV 0), (2, pV 2), (3, pV 3), (4, iV r2.2)] [(0, [.bx [.fz (lC 1 eN_u8 r4.1.b), iC r4.1.i, iC r4.1.h]]), (2, [.bx [iC 0, iC 0, iC 0]]), (3, [.bx [iC x1, iC r1.2.e, iC r1.2.n]])]) (by kernel_rfl) ?_
        refine ao_nil ?_
        obtain rfl := Option.some.inj h
        show ∃ _, _ ∧ Imp _ _ _
        refine ⟨_, rfl, ?_⟩
        exact imp_keepTo [0, 2, 3, 4] (by kernel_rfl) (imp_done rfl)
      · replace h := cF h1 h
        refine a_skip ?_
        obtain rfl := Option.some.inj h
        show ∃ _, _ ∧ Imp _ _ _
        refine ⟨_, rfl, ?_⟩
        exact imp_keepTo [0, 2, 3, 4] (by kernel_rfl) (imp_done rfl)
    intro j1 hj1
    replace h := ky1 _ hj1
    refine a_seq ?_
    refine a_seq ?_
    refine a_run [0, 2, 3, 4, 20] tyOK (st1 := mk 40 [(0, pV 0), (2, pV 2), (3, pV 3), (4, iV r2.2), (20, bV ((r2.2 == 1)))] [(0, [.bx [.fz (lC 1 eN_u8 j1.w0_0_0), iC j1.w0_0_1, iC j1.w0_0_2]]), (2, [.bx [iC 0, iC 0, iC 0]]), (3, [.bx [iC j1.w3_0_0, iC r1.2.e, iC r1.2.n]])]) (by kernel_rfl) ?_
    obtain ⟨y2, h, ky2⟩ := bndJ_e h
    refine a_joinT (ι := Xs_l07AnyTx_2) (fun j => mk 40 [(0, pV 0), (2, pV 2), (3, pV 3), (4, iV r2.2)] [(0, [.bx [.fz (lC 1 eN_u8 j.w0_0_0), iC j.w0_0_1, iC j.w0_0_2]]), (2, [.bx [iC 0, iC 0, iC 0]]), (3, [.bx [iC j1.w3_0_0, iC j.w3_0_1, iC r1.2.n]])]) (fun j => y2 = j) ?_ ?_
    · refine a_cond (b := (r2.2 == 1)) (by kernel_rfl) (fun h2 => ?_) (fun h2 => ?_)
      · replace h := cT h2 h
        refine a_ops [0, 1, 2, 3, 4, 5, 6, 7, 8] (by kernel_rfl) ?_
        refine ao_some [0] [1, 2, 3, 4, 5, 6, 7, 8] [0, 2, 3, 4, 21] tyOK (st1 := mk 40 [(0, pV 0), (2, pV 2), (3, pV 3), (4, iV r2.2), (21, pV 0)] [(0, [.bx [.fz (lC 1 eN_u8 j1.w0_0_0), iC j1.w0_0_1, iC j1.w0_0_2]]), (2, [.bx [iC 0, iC 0, iC 0]]), (3, [.bx [iC j1.w3_0_0, iC r1.2.e, iC r1.2.n]])]) (by kernel_rfl) ?_
        obtain ⟨r5, er5, h⟩ := bnd_e h
        refine ao_g2 (g := 100) (d := 22) (A := [pV 0]) (A' := [pV 0]) (cs := [.bx [.fz (lC 1 eN_u8 j1.w0_0_0), iC j1.w0_0_1, iC j1.w0_0_2]]) (outs := [.bx [.fz (lC 1 eN_u8 r5.1.b), iC r5.1.i, iC r5.1.h]]) (ps := [[(0, 0)]]) (st1 := mk 40 [(0, pV 0), (2, pV 2), (3, pV 3), (4, iV r2.2), (22, iV r5.2)] [(0, [.bx [.fz (lC 1 eN_u8 r5.1.b), iC r5.1.i, iC r5.1.h]]), (2, [.bx [iC 0, iC 0, iC 0]]), (3, [.bx [iC j1.w3_0_0, iC r1.2.e, iC r1.2.n]])]) [0, 2, 3, 4, 22] (k_s_l01Raw ((⟨j1.w0_0_0, j1.w0_0_1, j1.w0_0_2⟩ : L01Cur)) r5 er5) Try.call100 (by kernel_rfl) (.cons (.one (.pl 0 rfl rfl)) .nil) (handedN_of (szs := [0]) (by kernel_rfl)) (by kernel_rfl) (.bx .nil) (wholeFIO _ _ _ _) (by kernel_rfl) (by kernel_rfl) ?_
        refine ao_some [2, 3] [4, 5, 6, 7, 8] [0, 2, 3, 4, 23, 24] tyOK (st1 := mk 40 [(0, pV 0), (2, pV 2), (3, pV 3), (4, iV r2.2), (23, .one (.so [] 23 0 4)), (24, pV 0)] [(0, [.bx [.fz (lC 1 eN_u8 r5.1.b), iC r5.1.i, iC r5.1.h]]), (2, [.bx [iC 0, iC 0, iC 0]]), (3, [.bx [iC j1.w3_0_0, iC r1.2.e, iC r1.2.n]]), (23, [.sl 1 ([[iC 0], [iC 999], [iC 1000], [iC r5.2]])])]) (by kernel_rfl) ?_
        obtain ⟨r6, er6, h⟩ := bnd_e h
        refine ao_g2 (g := 55) (d := 25) (A := [pV 0, iV 4]) (A' := [pV 0, iV 4]) (cs := [.bx [.fz (lC 1 eN_u8 r5.1.b), iC r5.1.i, iC r5.1.h]]) (outs := [.bx [.fz (lC 1 eN_u8 r6.1.b), iC r6.1.i, iC r6.1.h]]) (ps := [[(0, 0)]]) (st1 := mk 40 [(0, pV 0), (2, pV 2), (3, pV 3), (4, iV r2.2), (23, .one (.so [] 23 0 4)), (25, iV r6.2)] [(0, [.bx [.fz (lC 1 eN_u8 r6.1.b), iC r6.1.i, iC r6.1.h]]), (2, [.bx [iC 0, iC 0, iC 0]]), (3, [.bx [iC j1.w3_0_0, iC r1.2.e, iC r1.2.n]]), (23, [.sl 1 ([[iC 0], [iC 999], [iC 1000], [iC r5.2]])])]) [0, 2, 3, 4, 23, 25] (k_s_l01Below r5.1 4 r6 er6) Try.call55 (by kernel_rfl) (.cons (.one (.pl 0 rfl rfl)) (.cons (.one (.same rfl)) .nil)) (handedN_of (szs := [0]) (by kernel_rfl)) (by kernel_rfl) (.bx .nil) (wholeFIO _ _ _ _) (by kernel_rfl) (by kernel_rfl) ?_
        obtain ⟨x2, ex2, h⟩ := bnd_e h
        refine ao_indexOwn (d := 26) (size := 1) (n0 := 4) (n := r6.2) (p := [(23, 0)]) (rows := [[iC 0], [iC 999], [iC 1000], [iC r5.2]]) (st1 := mk 40 [(0, pV 0), (2, pV 2), (3, pV 3), (4, iV r2.2), (26, .one (.pl [(23, 0)] ((r6.2).toNat) 0))] [(0, [.bx [.fz (lC 1 eN_u8 r6.1.b), iC r6.1.i, iC r6.1.h]]), (2, [.bx [iC 0, iC 0, iC 0]]), (3, [.bx [iC j1.w3_0_0, iC r1.2.e, iC r1.2.n]]), (23, [.sl 1 ([[iC 0], [iC 999], [iC 1000], [iC r5.2]])])]) [iC x2] [0, 2, 3, 4, 26] tyOK (by kernel_rfl) (by simpa using getI_both ex2) (by exact get_map (en := eInt) (getI_e ex2).2) (by kernel_rfl) (by kernel_rfl) ?_
        refine ao_P (d := 27) (op := .load 3 (.tmp 26)) (tv := iV x2) (st1 := mk 40 [(0, pV 0), (2, pV 2), (3, pV 3), (4, iV r2.2), (27, iV x2)] [(0, [.bx [.fz (lC 1 eN_u8 r6.1.b), iC r6.1.i, iC r6.1.h]]), (2, [.bx [iC 0, iC 0, iC 0]]), (3, [.bx [iC j1.w3_0_0, iC r1.2.e, iC r1.2.n]])]) [0, 2, 3, 4, 27] tyOK (by kernel_rfl) (stepP_loadOwn (size := 1) (n := ((r6.2).toNat)) (f := 0) (agg := false) (p := [(23, 0)]) (rows := [[iC 0], [iC 999], [iC 1000], [iC r5.2]]) [iC x2] (by kernel_rfl) (get_map (en := eInt) (getI_e ex2).2) (by kernel_rfl) (by kernel_rfl)) (by kernel_rfl) ?_
        refine ao_some [7, 8] [] [0, 2, 3, 4] tyOK (st1 := mk 40 [(0, pV 0), (2, pV 2), (3, pV 3), (4, iV r2.2)] [(0, [.bx [.fz (lC 1 eN_u8 r6.1.b), iC r6.1.i, iC r6.1.h]]), (2, [.bx [iC 0, iC 0, iC 0]]), (3, [.bx [iC j1.w3_0_0, iC x2, iC r1.2.n]])]) (by kernel_rfl) ?_
        refine ao_nil ?_
        obtain rfl := Option.some.inj h
        show ∃ _, _ ∧ Imp _ _ _
        refine ⟨_, rfl, ?_⟩
        exact imp_keepTo [0, 2, 3, 4] (by kernel_rfl) (imp_done rfl)
      · replace h := cF h2 h
        refine a_skip ?_
        obtain rfl := Option.some.inj h
        show ∃ _, _ ∧ Imp _ _ _
        refine ⟨_, rfl, ?_⟩
        exact imp_keepTo [0, 2, 3, 4] (by kernel_rfl) (imp_done rfl)
    intro j2 hj2
    replace h := ky2 _ hj2
    refine a_seq ?_
    refine a_seq ?_
    refine a_run [0, 2, 3, 30] tyOK (st1 := mk 40 [(0, pV 0), (2, pV 2), (3, pV 3), (30, bV ((r2.2 == 2)))] [(0, [.bx [.fz (lC 1 eN_u8 j2.w0_0_0), iC j2.w0_0_1, iC j2.w0_0_2]]), (2, [.bx [iC 0, iC 0, iC 0]]), (3, [.bx [iC j1.w3_0_0, iC j2.w3_0_1, iC r1.2.n]])]) (by kernel_rfl) ?_
    obtain ⟨y3, h, ky3⟩ := bndJ_e h
    refine a_joinT (ι := Xs_l07AnyTx_3) (fun j => mk 40 [(0, pV 0), (2, pV 2), (3, pV 3)] [(0, [.bx [.fz (lC 1 eN_u8 j.w0_0_0), iC j.w0_0_1, iC j.w0_0_2]]), (2, [.bx [iC 0, iC 0, iC 0]]), (3, [.bx [iC j1.w3_0_0, iC j2.w3_0_1, iC j.w3_0_2]])]) (fun j => y3 = j) ?_ ?_
    · refine a_cond (b := (r2.2 == 2)) (by kernel_rfl) (fun h3 => ?_) (fun h3 => ?_)
      · replace h := cT h3 h
        refine a_ops [0, 1, 2, 3, 4, 5, 6, 7, 8] (by kernel_rfl) ?_
        refine ao_some [0] [1, 2, 3, 4, 5, 6, 7, 8] [0, 2, 3, 31] tyOK (st1 := mk 40 [(0, pV 0), (2, pV 2), (3, pV 3), (31, pV 0)] [(0, [.bx [.fz (lC 1 eN_u8 j2.w0_0_0), iC j2.w0_0_1, iC j2.w0_0_2]]), (2, [.bx [iC 0, iC 0, iC 0]]), (3, [.bx [iC j1.w3_0_0, iC j2.w3_0_1, iC r1.2.n]])]) (by kernel_rfl) ?_
        obtain ⟨r7, er7, h⟩ := bnd_e h
        refine ao_g2 (g := 100) (d := 32) (A := [pV 0]) (A' := [pV 0]) (cs := [.bx [.fz (lC 1 eN_u8 j2.w0_0_0), iC j2.w0_0_1, iC j2.w0_0_2]]) (outs := [.bx [.fz (lC 1 eN_u8 r7.1.b), iC r7.1.i, iC r7.1.h]]) (ps := [[(0, 0)]]) (st1 := mk 40 [(0, pV 0), (2, pV 2), (3, pV 3), (32, iV r7.2)] [(0, [.bx [.fz (lC 1 eN_u8 r7.1.b), iC r7.1.i, iC r7.1.h]]), (2, [.bx [iC 0, iC 0, iC 0]]), (3, [.bx [iC j1.w3_0_0, iC j2.w3_0_1, iC r1.2.n]])]) [0, 2, 3, 32] (k_s_l01Raw ((⟨j2.w0_0_0, j2.w0_0_1, j2.w0_0_2⟩ : L01Cur)) r7 er7) Try.call100 (by kernel_rfl) (.cons (.one (.pl 0 rfl rfl)) .nil) (handedN_of (szs := [0]) (by kernel_rfl)) (by kernel_rfl) (.bx .nil) (wholeFIO _ _ _ _) (by kernel_rfl) (by kernel_rfl) ?_
        refine ao_some [2, 3] [4, 5, 6, 7, 8] [0, 2, 3, 33, 34] tyOK (st1 := mk 40 [(0, pV 0), (2, pV 2), (3, pV 3), (33, .one (.so [] 33 0 4)), (34, pV 0)] [(0, [.bx [.fz (lC 1 eN_u8 r7.1.b), iC r7.1.i, iC r7.1.h]]), (2, [.bx [iC 0, iC 0, iC 0]]), (3, [.bx [iC j1.w3_0_0, iC j2.w3_0_1, iC r1.2.n]]), (33, [.sl 1 ([[iC 0], [iC 999], [iC 1000], [iC r7.2]])])]) (by kernel_rfl) ?_
        obtain ⟨r8, er8, h⟩ := bnd_e h
        refine ao_g2 (g := 55) (d := 35) (A := [pV 0, iV 4]) (A' := [pV 0, iV 4]) (cs := [.bx [.fz (lC 1 eN_u8 r7.1.b), iC r7.1.i, iC r7.1.h]]) (outs := [.bx [.fz (lC 1 eN_u8 r8.1.b), iC r8.1.i, iC r8.1.h]]) (ps := [[(0, 0)]]) (st1 := mk 40 [(0, pV 0), (2, pV 2), (3, pV 3), (33, .one (.so [] 33 0 4)), (35, iV r8.2)] [(0, [.bx [.fz (lC 1 eN_u8 r8.1.b), iC r8.1.i, iC r8.1.h]]), (2, [.bx [iC 0, iC 0, iC 0]]), (3, [.bx [iC j1.w3_0_0, iC j2.w3_0_1, iC r1.2.n]]), (33, [.sl 1 ([[iC 0], [iC 999], [iC 1000], [iC r7.2]])])]) [0, 2, 3, 33, 35] (k_s_l01Below r7.1 4 r8 er8) Try.call55 (by kernel_rfl) (.cons (.one (.pl 0 rfl rfl)) (.cons (.one (.same rfl)) .nil)) (handedN_of (szs := [0]) (by kernel_rfl)) (by kernel_rfl) (.bx .nil) (wholeFIO _ _ _ _) (by kernel_rfl) (by kernel_rfl) ?_
        obtain ⟨x3, ex3, h⟩ := bnd_e h
        refine ao_indexOwn (d := 36) (size := 1) (n0 := 4) (n := r8.2) (p := [(33, 0)]) (rows := [[iC 0], [iC 999], [iC 1000], [iC r7.2]]) (st1 := mk 40 [(0, pV 0), (2, pV 2), (3, pV 3), (36, .one (.pl [(33, 0)] ((r8.2).toNat) 0))] [(0, [.bx [.fz (lC 1 eN_u8 r8.1.b), iC r8.1.i, iC r8.1.h]]), (2, [.bx [iC 0, iC 0, iC 0]]), (3, [.bx [iC j1.w3_0_0, iC j2.w3_0_1, iC r1.2.n]]), (33, [.sl 1 ([[iC 0], [iC 999], [iC 1000], [iC r7.2]])])]) [iC x3] [0, 2, 3, 36] tyOK (by kernel_rfl) (by simpa using getI_both ex3) (by exact get_map (en := eInt) (getI_e ex3).2) (by kernel_rfl) (by kernel_rfl) ?_
        refine ao_P (d := 37) (op := .load 3 (.tmp 36)) (tv := iV x3) (st1 := mk 40 [(0, pV 0), (2, pV 2), (3, pV 3), (37, iV x3)] [(0, [.bx [.fz (lC 1 eN_u8 r8.1.b), iC r8.1.i, iC r8.1.h]]), (2, [.bx [iC 0, iC 0, iC 0]]), (3, [.bx [iC j1.w3_0_0, iC j2.w3_0_1, iC r1.2.n]])]) [0, 2, 3, 37] tyOK (by kernel_rfl) (stepP_loadOwn (size := 1) (n := ((r8.2).toNat)) (f := 0) (agg := false) (p := [(33, 0)]) (rows := [[iC 0], [iC 999], [iC 1000], [iC r7.2]]) [iC x3] (by kernel_rfl) (get_map (en := eInt) (getI_e ex3).2) (by kernel_rfl) (by kernel_rfl)) (by kernel_rfl) ?_
        refine ao_some [7, 8] [] [0, 2, 3] tyOK (st1 := mk 40 [(0, pV 0), (2, pV 2), (3, pV 3)] [(0, [.bx [.fz (lC 1 eN_u8 r8.1.b), iC r8.1.i, iC r8.1.h]]), (2, [.bx [iC 0, iC 0, iC 0]]), (3, [.bx [iC j1.w3_0_0, iC j2.w3_0_1, iC x3]])]) (by kernel_rfl) ?_
        refine ao_nil ?_
        obtain rfl := Option.some.inj h
        show ∃ _, _ ∧ Imp _ _ _
        refine ⟨_, rfl, ?_⟩
        exact imp_keepTo [0, 2, 3] (by kernel_rfl) (imp_done rfl)
      · replace h := cF h3 h
        refine a_skip ?_
        obtain rfl := Option.some.inj h
        show ∃ _, _ ∧ Imp _ _ _
        refine ⟨_, rfl, ?_⟩
        exact imp_keepTo [0, 2, 3] (by kernel_rfl) (imp_done rfl)
    intro j3 hj3
    replace h := ky3 _ hj3
    refine a_seq ?_
    refine a_run [0, 2] tyOK (st1 := mk 40 [(0, pV 0), (2, pV 2)] [(0, [.bx [.fz (lC 1 eN_u8 j3.w0_0_0), iC j3.w0_0_1, iC j3.w0_0_2]]), (2, [.bx [iC j1.w3_0_0, iC j2.w3_0_1, iC j3.w3_0_2]])]) (by kernel_rfl) ?_
    refine a_ret ?_
    obtain rfl := Option.some.inj h
    exact end_g (ob := []) (outs' := [.bx [.fz (lC 1 eN_u8 j3.w0_0_0), iC j3.w0_0_1, iC j3.w0_0_2]]) (res' := .agg [.c (iC j1.w3_0_0), .c (iC j2.w3_0_1), .c (iC j3.w3_0_2)]) (row' := []) (by kernel_rfl) trivial (by first | rfl | simp) (by first | rfl | simp) (by first | rfl | simp)


end Go.Proofs.Ytagoajkiccgmjaa
namespace Go.Proofs.Ytagoajkiccgmjaa
open Go.Mv Go.RowKit
structure Xs_l07AnyLocks_1 where
  w0_0_0 : (List Int)
  w0_0_1 : Int
  w0_0_2 : Int
  w3_0_0 : (List Lock)

structure Xs_l07AnyLocks_2 where
  w0_0_0 : (List Int)
  w0_0_1 : Int
  w0_0_2 : Int
  w3_0_0 : (List Lock)

structure Xs_l07AnyLocks_3 where
  w0_0_0 : (List Int)
  w0_0_1 : Int
  w0_0_2 : Int
  w3_0_1 : (List Lock)

structure Xs_l07AnyLocks_4 where
  w0_0_0 : (List Int)
  w0_0_1 : Int
  w0_0_2 : Int
  w3_0_1 : (List Lock)

structure Xs_l07AnyLocks_5 where
  w0_0_0 : (List Int)
  w0_0_1 : Int
  w0_0_2 : Int
  w3_0_0 : (List Lock)
  w3_0_1 : (List Lock)

structure Xs_l07AnyLocks_6 where
  w0_0_0 : (List Int)
  w0_0_1 : Int
  w0_0_2 : Int
  w3_0_0 : (List Lock)

structure Ss_l07AnyLocks_1 where
  v5 : Int
  w0_0_0 : (List Int)
  w0_0_1 : Int
  w0_0_2 : Int
  w3_0_0 : (List Lock)

noncomputable def Bs_l07AnyLocks_1 (s1 : Ss_l07AnyLocks_1) : Option (Ss_l07AnyLocks_1 ⊕ Xs_l07AnyLocks_6) :=
 bnd (s_l01Below ((⟨s1.w0_0_0, s1.w0_0_1, s1.w0_0_2⟩ : L01Cur)) 3) fun r7 =>
 bif (decide (s1.v5 < (IntKind.wrap .i64 (59 + r7.2)))) then
 (bnd (s_l07Tx r7.1) fun r8 =>
 bnd (s_l02Range r8.1) fun r9 =>
 chk (((s1.w3_0_0).length + (([(⟨r8.2, r9.2, false⟩ : Lock)] : List Lock)).length) * 64 ≤ 140737488355328) <|
 some (.inl ((⟨IntKind.wrap .i64 (s1.v5 + 1), r9.1.b, r9.1.i, r9.1.h, s1.w3_0_0 ++ ([(⟨r8.2, r9.2, false⟩ : Lock)] : List Lock)⟩ : Ss_l07AnyLocks_1))))
 else
 (some (.inr ((⟨r7.1.b, r7.1.i, r7.1.h, s1.w3_0_0⟩ : Xs_l07AnyLocks_6))))

noncomputable def s_l07AnyLocks (p0 : L01Cur) : Option (L01Cur × Locks) :=
 bnd (s_l07Draw p0) fun r1 =>
 bnd (s_l01Below r1.1 12) fun r2 =>
 bnd (bif (bif ((r2.2 == 0)) then (decide ((((((r1.2.held).map eLock).length : Nat) : Int)) > 0)) else false) then
 (bnd (s_l02AnyRange r2.1) fun r3 =>
 bnd (getI r1.2.held 0) fun x1 =>
 some ((⟨r3.1.b, r3.1.i, r3.1.h, r1.2.held.set 0 ((⟨x1.tx, r3.2, x1.ex⟩ : Lock))⟩ : Xs_l07AnyLocks_1)))
 else
 (some ((⟨r2.1.b, r2.1.i, r2.1.h, r1.2.held⟩ : Xs_l07AnyLocks_1)))) fun j1 =>
 bnd (bif ((r2.2 == 1)) then
 (bnd (s_l07Lock ((⟨j1.w0_0_0, j1.w0_0_1, j1.w0_0_2⟩ : L01Cur))) fun r4 =>
 chk (((j1.w3_0_0).length + (([r4.2] : List Lock)).length) * 64 ≤ 140737488355328) <|
 some ((⟨r4.1.b, r4.1.i, r4.1.h, j1.w3_0_0 ++ ([r4.2] : List Lock)⟩ : Xs_l07AnyLocks_2)))
 else
 (some ((⟨j1.w0_0_0, j1.w0_0_1, j1.w0_0_2, j1.w3_0_0⟩ : Xs_l07AnyLocks_2)))) fun j2 =>
 bnd (bif ((r2.2 == 2)) then
 (bnd (s_l07Lock ((⟨j2.w0_0_0, j2.w0_0_1, j2.w0_0_2⟩ : L01Cur))) fun r5 =>
 chk (((r1.2.wait).length + (([r5.2] : List Lock)).length) * 64 ≤ 140737488355328) <|
 some ((⟨r5.1.b, r5.1.i, r5.1.h, r1.2.wait ++ ([r5.2] : List Lock)⟩ : Xs_l07AnyLocks_3)))
 else
 (some ((⟨j2.w0_0_0, j2.w0_0_1, j2.w0_0_2, r1.2.wait⟩ : Xs_l07AnyLocks_3)))) fun j3 =>
 bnd (bif (bif ((r2.2 == 3)) then (decide ((((((j3.w3_0_1).map eLock).length : Nat) : Int)) > 0)) else false) then
 (bnd (s_l07AnyTx ((⟨j3.w0_0_0, j3.w0_0_1, j3.w0_0_2⟩ : L01Cur))) fun r6 =>
 bnd (getI j3.w3_0_1 0) fun x2 =>
 some ((⟨r6.1.b, r6.1.i, r6.1.h, j3.w3_0_1.set 0 ((⟨r6.2, x2.range, x2.ex⟩ : Lock))⟩ : Xs_l07AnyLocks_4)))
 else
 (some ((⟨j3.w0_0_0, j3.w0_0_1, j3.w0_0_2, j3.w3_0_1⟩ : Xs_l07AnyLocks_4)))) fun j4 =>
 bnd (bif ((r2.2 == 4)) then
 (bnd (loopT (Bs_l07AnyLocks_1) ((⟨0, j4.w0_0_0, j4.w0_0_1, j4.w0_0_2, ([] : List Lock)⟩ : Ss_l07AnyLocks_1))) fun j5 =>
 some ((⟨j5.w0_0_0, j5.w0_0_1, j5.w0_0_2, j5.w3_0_0, ([] : List Lock)⟩ : Xs_l07AnyLocks_5)))
 else
 (some ((⟨j4.w0_0_0, j4.w0_0_1, j4.w0_0_2, j2.w3_0_0, j4.w3_0_1⟩ : Xs_l07AnyLocks_5)))) fun j6 =>
 some (((⟨j6.w0_0_0, j6.w0_0_1, j6.w0_0_2⟩ : L01Cur), (⟨j6.w3_0_0, j6.w3_0_1⟩ : Locks)))
set_option maxHeartbeats 4000000 in
/-- spec.l07AnyLocks -/
theorem k_s_l07AnyLocks (p0 : L01Cur) (v : L01Cur × Locks) (h : s_l07AnyLocks p0 = some v) : CallG Try.prog 53 [.bx [.fz (lC 1 eN_u8 p0.b), iC p0.i, iC p0.h]] [pV 0] [.bx [.fz (lC 1 eN_u8 v.1.b), iC v.1.i, iC v.1.h]] (.agg [.so [] 0 0 ((v.2.held).length), .so [] 0 1 ((v.2.wait).length)]) [lC 6 eLock v.2.held, lC 6 eLock v.2.wait] :=
  callG tyOK Try.func53 rfl (by simp) fun w S γ hS => by
    unfold s_l07AnyLocks at h
    refine a_seq ?_
    refine a_run [0, 2] tyOK (st1 := mk 77 [(0, pV 0), (2, pV 2)] [(0, [.bx [.fz (lC 1 eN_u8 p0.b), iC p0.i, iC p0.h]]), (2, [.bx [.sl 6 ([]), .sl 6 ([])]])]) (by as_aux_lemma => kernel_rfl) ?_
    refine a_seq ?_
    refine a_ops [0, 1, 2, 3] (by as_aux_lemma => kernel_rfl) ?_
    refine ao_someM [0] [1, 2, 3] tyOK (l1 := [(0, pV 0), (2, pV 2), (6, pV 0)]) (by as_aux_lemma => kernel_rfl) ?_
    obtain ⟨r1, er1, h⟩ := bnd_e h
    refine ao_g2 (g := 96) (d := 7) (A := [pV 0]) (A' := [pV 0]) (cs := [.bx [.fz (lC 1 eN_u8 p0.b), iC p0.i, iC p0.h]]) (outs := [.bx [.fz (lC 1 eN_u8 r1.1.b), iC r1.1.i, iC r1.1.h]]) (ps := [[(0, 0)]]) (st1 := mk 77 [(0, pV 0), (2, pV 2), (7, .agg [.so [] 7 0 ((r1.2.held).length), .so [] 7 1 ((r1.2.wait).length)])] [(0, [.bx [.fz (lC 1 eN_u8 r1.1.b), iC r1.1.i, iC r1.1.h]]), (2, [.bx [.sl 6 ([]), .sl 6 ([])]]), (7, [lC 6 eLock r1.2.held, lC 6 eLock r1.2.wait])]) [0, 2, 7] (k_s_l07Draw p0 r1 er1) Try.call96 (by as_aux_lemma => kernel_rfl) (.cons (.one (.pl 0 rfl rfl)) .nil) (handedN_of (szs := [0]) (by as_aux_lemma => kernel_rfl)) (by as_aux_lemma => kernel_rfl) (.bx .nil) (wholeFIO _ _ _ _) (by as_aux_lemma => kernel_rfl) (by as_aux_lemma => kernel_rfl) ?_
    refine ao_some [2] [3] [0, 2, 3, 7] tyOK (st1 := mk 77 [(0, pV 0), (2, pV 2), (3, pV 3), (7, .agg [.so [] 7 0 ((r1.2.held).length), .so [] 7 1 ((r1.2.wait).length)])] [(0, [.bx [.fz (lC 1 eN_u8 r1.1.b), iC r1.1.i, iC r1.1.h]]), (2, [.bx [.sl 6 ([]), .sl 6 ([])]]), (3, [.bx [.sl 6 ([]), .sl 6 ([])]]), (7, [lC 6 eLock r1.2.held, lC 6 eLock r1.2.wait])]) (by as_aux_lemma => kernel_rfl) ?_
    refine ao_o (ob := [(((r1.2.held).map eLock).length, (r1.2.held).length), (((r1.2.wait).map eLock).length, (r1.2.wait).length)]) (st1 := mk 77 [(0, pV 0), (2, pV 2), (3, pV 3)] [(0, [.bx [.fz (lC 1 eN_u8 r1.1.b), iC r1.1.i, iC r1.1.h]]), (2, [.bx [.sl 6 ([]), .sl 6 ([])]]), (3, [.bx [lC 6 eLock r1.2.held, lC 6 eLock r1.2.wait]])]) [0, 2, 3] tyOK (by as_aux_lemma => kernel_rfl) ⟨by simp, by simp, trivial⟩ ?_
    refine ao_nil ?_
    refine a_seq ?_
    refine a_ops [0, 1, 2] (by as_aux_lemma => kernel_rfl) ?_
    refine ao_someM [0] [1, 2] tyOK (l1 := [(0, pV 0), (2, pV 2), (3, pV 3), (8, pV 0)]) (by as_aux_lemma => kernel_rfl) ?_
    obtain ⟨r2, er2, h⟩ := bnd_e h
    refine ao_g2 (g := 55) (d := 9) (A := [pV 0, iV 12]) (A' := [pV 0, iV 12]) (cs := [.bx [.fz (lC 1 eN_u8 r1.1.b), iC r1.1.i, iC r1.1.h]]) (outs := [.bx [.fz (lC 1 eN_u8 r2.1.b), iC r2.1.i, iC r2.1.h]]) (ps := [[(0, 0)]]) (st1 := mk 77 [(0, pV 0), (2, pV 2), (3, pV 3), (9, iV r2.2)] [(0, [.bx [.fz (lC 1 eN_u8 r2.1.b), iC r2.1.i, iC r2.1.h]]), (2, [.bx [.sl 6 ([]), .sl 6 ([])]]), (3, [.bx [lC 6 eLock r1.2.held, lC 6 eLock r1.2.wait]])]) [0, 2, 3, 9] (k_s_l01Below r1.1 12 r2 er2) Try.call55 (by as_aux_lemma => kernel_rfl) (.cons (.one (.pl 0 rfl rfl)) (.cons (.one (.same rfl)) .nil)) (handedN_of (szs := [0]) (by as_aux_lemma => kernel_rfl)) (by as_aux_lemma => kernel_rfl) (.bx .nil) (wholeFIO _ _ _ _) (by as_aux_lemma => kernel_rfl) (by as_aux_lemma => kernel_rfl) ?_
    refine ao_someM [2] [] tyOK (l1 := [(0, pV 0), (2, pV 2), (3, pV 3), (4, iV r2.2)]) (by as_aux_lemma => kernel_rfl) ?_
    refine ao_nil ?_
    refine a_seq ?_
    refine a_seq ?_
    refine a_mid (mk 77 [(0, pV 0), (2, pV 2), (3, pV 3), (4, iV r2.2), (17, bV (bif ((r2.2 == 0)) then (decide ((((((r1.2.held).map eLock).length : Nat) : Int)) > 0)) else false))] [(0, [.bx [.fz (lC 1 eN_u8 r2.1.b), iC r2.1.i, iC r2.1.h]]), (2, [.bx [.sl 6 ([]), .sl 6 ([])]]), (3, [.bx [lC 6 eLock r1.2.held, lC 6 eLock r1.2.wait]])]) ?_ ?_
    · refine a_ops [0, 1, 2, 3, 4, 5, 6, 7] (by as_aux_lemma => kernel_rfl) ?_
      refine ao_someM [0, 1, 2] [3, 4, 5, 6, 7] tyOK (l1 := [(0, pV 0), (2, pV 2), (3, pV 3), (4, iV r2.2), (12, bV ((r2.2 == 0)))]) (by as_aux_lemma => kernel_rfl) ?_
      rcases Bool.eq_false_or_eq_true ((r2.2 == 0)) with h1 | h1
      · refine ao_saysM (k := 12) (t := bV ((r2.2 == 0))) (t' := bV true) (l1 := [(0, pV 0), (2, pV 2), (3, pV 3), (4, iV r2.2), (12, bV true)]) (by as_aux_lemma => kernel_rfl) (by rw [h1]) (by as_aux_lemma => kernel_rfl) ?_
        refine ao_someM [3, 4, 5, 6, 7] [] tyOK (l1 := [(0, pV 0), (2, pV 2), (3, pV 3), (4, iV r2.2), (17, bV (decide ((((((r1.2.held).map eLock).length : Nat) : Int)) > 0)))]) (by as_aux_lemma => kernel_rfl) ?_
        refine ao_nil ?_
        show mk 77 [(0, pV 0), (2, pV 2), (3, pV 3), (4, iV r2.2), (17, bV (decide ((((((r1.2.held).map eLock).length : Nat) : Int)) > 0)))] [(0, [.bx [.fz (lC 1 eN_u8 r2.1.b), iC r2.1.i, iC r2.1.h]]), (2, [.bx [.sl 6 ([]), .sl 6 ([])]]), (3, [.bx [lC 6 eLock r1.2.held, lC 6 eLock r1.2.wait]])] = mk 77 [(0, pV 0), (2, pV 2), (3, pV 3), (4, iV r2.2), (17, bV (bif ((r2.2 == 0)) then (decide ((((((r1.2.held).map eLock).length : Nat) : Int)) > 0)) else false))] [(0, [.bx [.fz (lC 1 eN_u8 r2.1.b), iC r2.1.i, iC r2.1.h]]), (2, [.bx [.sl 6 ([]), .sl 6 ([])]]), (3, [.bx [lC 6 eLock r1.2.held, lC 6 eLock r1.2.wait]])]
        first | rfl | (simp only [h1, cond_true, cond_false]) | (simp only [h1, cond_true, cond_false]; rfl)
      · refine ao_saysM (k := 12) (t := bV ((r2.2 == 0))) (t' := bV false) (l1 := [(0, pV 0), (2, pV 2), (3, pV 3), (4, iV r2.2), (12, bV false)]) (by as_aux_lemma => kernel_rfl) (by rw [h1]) (by as_aux_lemma => kernel_rfl) ?_
        refine ao_someM [3, 4, 5, 6, 7] [] tyOK (l1 := [(0, pV 0), (2, pV 2), (3, pV 3), (4, iV r2.2), (17, bV false)]) (by as_aux_lemma => kernel_rfl) ?_
        refine ao_nil ?_
        show mk 77 [(0, pV 0), (2, pV 2), (3, pV 3), (4, iV r2.2), (17, bV false)] [(0, [.bx [.fz (lC 1 eN_u8 r2.1.b), iC r2.1.i, iC r2.1.h]]), (2, [.bx [.sl 6 ([]), .sl 6 ([])]]), (3, [.bx [lC 6 eLock r1.2.held, lC 6 eLock r1.2.wait]])] = mk 77 [(0, pV 0), (2, pV 2), (3, pV 3), (4, iV r2.2), (17, bV (bif ((r2.2 == 0)) then (decide ((((((r1.2.held).map eLock).length : Nat) : Int)) > 0)) else false))] [(0, [.bx [.fz (lC 1 eN_u8 r2.1.b), iC r2.1.i, iC r2.1.h]]), (2, [.bx [.sl 6 ([]), .sl 6 ([])]]), (3, [.bx [lC 6 eLock r1.2.held, lC 6 eLock r1.2.wait]])]
        first | rfl | (simp only [h1, cond_true, cond_false]) | (simp only [h1, cond_true, cond_false]; rfl)
    obtain ⟨y1, h, ky1⟩ := bndJ_e h
    refine a_joinT (ι := Xs_l07AnyLocks_1) (fun j => mk 77 [(0, pV 0), (2, pV 2), (3, pV 3), (4, iV r2.2)] [(0, [.bx [.fz (lC 1 eN_u8 j.w0_0_0), iC j.w0_0_1, iC j.w0_0_2]]), (2, [.bx [.sl 6 ([]), .sl 6 ([])]]), (3, [.bx [lC 6 eLock j.w3_0_0, lC 6 eLock r1.2.wait]])]) (fun j => y1 = j) ?_ ?_
    · refine a_cond (b := bif ((r2.2 == 0)) then (decide ((((((r1.2.held).map eLock).length : Nat) : Int)) > 0)) else false) (by as_aux_lemma => kernel_rfl) (fun h1 => ?_) (fun h1 => ?_)
      · replace h := cT h1 h
        obtain ⟨r3, er3, h⟩ := bnd_e h
        obtain ⟨x1, ex1, h⟩ := bnd_e h
        refine a_mid (mk 77 [(0, pV 0), (2, pV 2), (3, pV 3), (4, iV r2.2)] [(0, [.bx [.fz (lC 1 eN_u8 r3.1.b), iC r3.1.i, iC r3.1.h]]), (2, [.bx [.sl 6 ([]), .sl 6 ([])]]), (3, [.bx [lC 6 eLock (r1.2.held.set 0 ((⟨x1.tx, r3.2, x1.ex⟩ : Lock))), lC 6 eLock r1.2.wait]])]) ?_ ?_
        · refine a_drawn (n := 7) [3, 6] (by as_aux_lemma => kernel_rfl) (by as_aux_lemma => kernel_rfl) ?_
          refine aa_takeP (fuel := 6) (listed' := #[true, false, false, false, false, false, false]) (st' := mk 77 [(0, pV 0), (2, pV 2), (3, pV 3), (4, iV r2.2), (18, pV 3)] [(0, [.bx [.fz (lC 1 eN_u8 r2.1.b), iC r2.1.i, iC r2.1.h]]), (2, [.bx [.sl 6 ([]), .sl 6 ([])]]), (3, [.bx [lC 6 eLock r1.2.held, lC 6 eLock r1.2.wait]])]) [0] [0, 2, 3, 4, 18] tyOK (by as_aux_lemma => kernel_rfl) (by as_aux_lemma => kernel_rfl) (by as_aux_lemma => kernel_rfl) ?_
          refine aa_takeM (fuel := 5) (listed' := #[true, false, true, false, false, false, false]) (l1 := [(0, pV 0), (2, pV 2), (3, pV 3), (4, iV r2.2), (18, pV 3), (20, pV 0)]) [2] tyOK (by as_aux_lemma => kernel_rfl) (by as_aux_lemma => kernel_rfl) (by as_aux_lemma => kernel_rfl) ?_
          refine aa_all [1, 3] (by as_aux_lemma => kernel_rfl) rfl ?_
          refine aa_cons ?_ ?_
          · refine aone_anyM (listed' := #[true, true, true, false, false, false, false]) (l1 := [(0, pV 0), (2, pV 2), (3, pV 3), (4, iV r2.2), (19, .one (.so [(3, 0)] 0 0 (((r1.2.held).map eLock).length))), (20, pV 0)]) tyOK (by as_aux_lemma => kernel_rfl) (by as_aux_lemma => kernel_rfl) ?_
            refine aa_all [3] (by as_aux_lemma => kernel_rfl) rfl ?_
            refine aa_cons ?_ aa_nil
            refine aone_g2 (listed' := #[true, true, true, true, false, false, false]) (g := 57) (d := 21) (A := [pV 0]) (A' := [pV 0]) (cs := [.bx [.fz (lC 1 eN_u8 r2.1.b), iC r2.1.i, iC r2.1.h]]) (outs := [.bx [.fz (lC 1 eN_u8 r3.1.b), iC r3.1.i, iC r3.1.h]]) (ps := [[(0, 0)]]) (st1 := mk 77 [(0, pV 0), (2, pV 2), (3, pV 3), (4, iV r2.2), (19, .one (.so [(3, 0)] 0 0 (((r1.2.held).map eLock).length))), (21, .agg [.c (sC r3.2.lo), .c (sC r3.2.hi)])] [(0, [.bx [.fz (lC 1 eN_u8 r3.1.b), iC r3.1.i, iC r3.1.h]]), (2, [.bx [.sl 6 ([]), .sl 6 ([])]]), (3, [.bx [lC 6 eLock r1.2.held, lC 6 eLock r1.2.wait]])]) [0, 2, 3, 4, 19, 21] (k_s_l02AnyRange r2.1 r3 er3) Try.call57 (by as_aux_lemma => kernel_rfl) (.cons (.one (.pl 0 rfl rfl)) .nil) (handedN_of (szs := [0]) (by as_aux_lemma => kernel_rfl)) (by as_aux_lemma => kernel_rfl) (.bx .nil) (wholeFIO _ _ _ _) (by as_aux_lemma => kernel_rfl) (by as_aux_lemma => kernel_rfl) (by as_aux_lemma => kernel_rfl) (by as_aux_lemma => kernel_rfl) ?_
            refine aa_indexOwn (i := 4) (listed' := #[true, true, true, true, true, false, false]) (d := 22) (size := 6) (n0 := (((r1.2.held).map eLock).length)) (n := 0) (p := [(3, 0), (0, 0)]) (rows := (r1.2.held).map eLock) (st1 := mk 77 [(0, pV 0), (2, pV 2), (3, pV 3), (4, iV r2.2), (21, .agg [.c (sC r3.2.lo), .c (sC r3.2.hi)]), (22, .one (.pl [(3, 0), (0, 0)] 0 0))] [(0, [.bx [.fz (lC 1 eN_u8 r3.1.b), iC r3.1.i, iC r3.1.h]]), (2, [.bx [.sl 6 ([]), .sl 6 ([])]]), (3, [.bx [lC 6 eLock r1.2.held, lC 6 eLock r1.2.wait]])]) [iC x1.tx.c, iC x1.tx.e, iC x1.tx.n, sC x1.range.lo, sC x1.range.hi, bC x1.ex] [0, 2, 3, 4, 21, 22] tyOK (by as_aux_lemma => kernel_rfl) (by as_aux_lemma => kernel_rfl) (by simpa using getI_both ex1) (by exact get_map (en := eLock) (getI_e ex1).2) (by as_aux_lemma => kernel_rfl) (by as_aux_lemma => kernel_rfl) (by as_aux_lemma => kernel_rfl) (by as_aux_lemma => kernel_rfl) ?_
            refine aa_takeM (fuel := 1) (listed' := #[true, true, true, true, true, true, false]) (l1 := [(0, pV 0), (2, pV 2), (3, pV 3), (4, iV r2.2), (21, .agg [.c (sC r3.2.lo), .c (sC r3.2.hi)]), (23, .one (.pl [(3, 0), (0, 0)] 0 3))]) [5] tyOK (by as_aux_lemma => kernel_rfl) (by as_aux_lemma => kernel_rfl) (by as_aux_lemma => kernel_rfl) ?_
            refine aa_all [6] (by as_aux_lemma => kernel_rfl) rfl ?_
            refine aa_cons ?_ aa_nil
            refine aone_storeAt (listed' := #[true, true, true, true, true, true, true]) (n := 0) (f := 3) (q := [(3, 0), (0, 0)]) (rows := (r1.2.held).map eLock) (rows' := (r1.2.held.set 0 ((⟨x1.tx, r3.2, x1.ex⟩ : Lock))).map eLock) (szs := []) (ts := [.c (sC r3.2.lo), .c (sC r3.2.hi)]) (t1 := (mk 77 [(0, pV 0), (2, pV 2), (3, pV 3), (4, iV r2.2), (21, .agg [.c (sC r3.2.lo), .c (sC r3.2.hi)]), (23, .one (.pl [(3, 0), (0, 0)] 0 3))] [(0, [.bx [.fz (lC 1 eN_u8 r3.1.b), iC r3.1.i, iC r3.1.h]]), (2, [.bx [.sl 6 ([]), .sl 6 ([])]]), (3, [.bx [lC 6 eLock r1.2.held, lC 6 eLock r1.2.wait]])]).t) (st1 := mk 77 [(0, pV 0), (2, pV 2), (3, pV 3), (4, iV r2.2)] [(0, [.bx [.fz (lC 1 eN_u8 r3.1.b), iC r3.1.i, iC r3.1.h]]), (2, [.bx [.sl 6 ([]), .sl 6 ([])]]), (3, [.bx [lC 6 eLock (r1.2.held.set 0 ((⟨x1.tx, r3.2, x1.ex⟩ : Lock))), lC 6 eLock r1.2.wait]])]) [iC x1.tx.c, iC x1.tx.e, iC x1.tx.n, sC x1.range.lo, sC x1.range.hi, bC x1.ex] [0, 2, 3, 4] tyOK (by as_aux_lemma => kernel_rfl) (by exact get_map (en := eLock) (getI_e ex1).2) (Nat.le_of_ble_eq_true rfl) (by as_aux_lemma => kernel_rfl) (by exact set_map_row0 rfl) (by as_aux_lemma => kernel_rfl) (by as_aux_lemma => kernel_rfl) (by as_aux_lemma => kernel_rfl) ?_
            refine aa_done (by as_aux_lemma => kernel_rfl) ?_
            show _ = _; kernel_rfl
          refine aa_cons ?_ aa_nil
          refine aone_g2 (listed' := #[true, false, true, true, false, false, false]) (g := 57) (d := 21) (A := [pV 0]) (A' := [pV 0]) (cs := [.bx [.fz (lC 1 eN_u8 r2.1.b), iC r2.1.i, iC r2.1.h]]) (outs := [.bx [.fz (lC 1 eN_u8 r3.1.b), iC r3.1.i, iC r3.1.h]]) (ps := [[(0, 0)]]) (st1 := mk 77 [(0, pV 0), (2, pV 2), (3, pV 3), (4, iV r2.2), (18, pV 3), (21, .agg [.c (sC r3.2.lo), .c (sC r3.2.hi)])] [(0, [.bx [.fz (lC 1 eN_u8 r3.1.b), iC r3.1.i, iC r3.1.h]]), (2, [.bx [.sl 6 ([]), .sl 6 ([])]]), (3, [.bx [lC 6 eLock r1.2.held, lC 6 eLock r1.2.wait]])]) [0, 2, 3, 4, 18, 21] (k_s_l02AnyRange r2.1 r3 er3) Try.call57 (by as_aux_lemma => kernel_rfl) (.cons (.one (.pl 0 rfl rfl)) .nil) (handedN_of (szs := [0]) (by as_aux_lemma => kernel_rfl)) (by as_aux_lemma => kernel_rfl) (.bx .nil) (wholeFIO _ _ _ _) (by as_aux_lemma => kernel_rfl) (by as_aux_lemma => kernel_rfl) (by as_aux_lemma => kernel_rfl) (by as_aux_lemma => kernel_rfl) ?_
          refine aa_takeM (fuel := 3) (listed' := #[true, true, true, true, false, false, false]) (l1 := [(0, pV 0), (2, pV 2), (3, pV 3), (4, iV r2.2), (19, .one (.so [(3, 0)] 0 0 (((r1.2.held).map eLock).length))), (21, .agg [.c (sC r3.2.lo), .c (sC r3.2.hi)])]) [1] tyOK (by as_aux_lemma => kernel_rfl) (by as_aux_lemma => kernel_rfl) (by as_aux_lemma => kernel_rfl) ?_
          refine aa_indexOwn (i := 4) (listed' := #[true, true, true, true, true, false, false]) (d := 22) (size := 6) (n0 := (((r1.2.held).map eLock).length)) (n := 0) (p := [(3, 0), (0, 0)]) (rows := (r1.2.held).map eLock) (st1 := mk 77 [(0, pV 0), (2, pV 2), (3, pV 3), (4, iV r2.2), (21, .agg [.c (sC r3.2.lo), .c (sC r3.2.hi)]), (22, .one (.pl [(3, 0), (0, 0)] 0 0))] [(0, [.bx [.fz (lC 1 eN_u8 r3.1.b), iC r3.1.i, iC r3.1.h]]), (2, [.bx [.sl 6 ([]), .sl 6 ([])]]), (3, [.bx [lC 6 eLock r1.2.held, lC 6 eLock r1.2.wait]])]) [iC x1.tx.c, iC x1.tx.e, iC x1.tx.n, sC x1.range.lo, sC x1.range.hi, bC x1.ex] [0, 2, 3, 4, 21, 22] tyOK (by as_aux_lemma => kernel_rfl) (by as_aux_lemma => kernel_rfl) (by simpa using getI_both ex1) (by exact get_map (en := eLock) (getI_e ex1).2) (by as_aux_lemma => kernel_rfl) (by as_aux_lemma => kernel_rfl) (by as_aux_lemma => kernel_rfl) (by as_aux_lemma => kernel_rfl) ?_
          refine aa_takeM (fuel := 1) (listed' := #[true, true, true, true, true, true, false]) (l1 := [(0, pV 0), (2, pV 2), (3, pV 3), (4, iV r2.2), (21, .agg [.c (sC r3.2.lo), .c (sC r3.2.hi)]), (23, .one (.pl [(3, 0), (0, 0)] 0 3))]) [5] tyOK (by as_aux_lemma => kernel_rfl) (by as_aux_lemma => kernel_rfl) (by as_aux_lemma => kernel_rfl) ?_
          refine aa_all [6] (by as_aux_lemma => kernel_rfl) rfl ?_
          refine aa_cons ?_ aa_nil
          refine aone_storeAt (listed' := #[true, true, true, true, true, true, true]) (n := 0) (f := 3) (q := [(3, 0), (0, 0)]) (rows := (r1.2.held).map eLock) (rows' := (r1.2.held.set 0 ((⟨x1.tx, r3.2, x1.ex⟩ : Lock))).map eLock) (szs := []) (ts := [.c (sC r3.2.lo), .c (sC r3.2.hi)]) (t1 := (mk 77 [(0, pV 0), (2, pV 2), (3, pV 3), (4, iV r2.2), (21, .agg [.c (sC r3.2.lo), .c (sC r3.2.hi)]), (23, .one (.pl [(3, 0), (0, 0)] 0 3))] [(0, [.bx [.fz (lC 1 eN_u8 r3.1.b), iC r3.1.i, iC r3.1.h]]), (2, [.bx [.sl 6 ([]), .sl 6 ([])]]), (3, [.bx [lC 6 eLock r1.2.held, lC 6 eLock r1.2.wait]])]).t) (st1 := mk 77 [(0, pV 0), (2, pV 2), (3, pV 3), (4, iV r2.2)] [(0, [.bx [.fz (lC 1 eN_u8 r3.1.b), iC r3.1.i, iC r3.1.h]]), (2, [.bx [.sl 6 ([]), .sl 6 ([])]]), (3, [.bx [lC 6 eLock (r1.2.held.set 0 ((⟨x1.tx, r3.2, x1.ex⟩ : Lock))), lC 6 eLock r1.2.wait]])]) [iC x1.tx.c, iC x1.tx.e, iC x1.tx.n, sC x1.range.lo, sC x1.range.hi, bC x1.ex] [0, 2, 3, 4] tyOK (by as_aux_lemma => kernel_rfl) (by exact get_map (en := eLock) (getI_e ex1).2) (Nat.le_of_ble_eq_true rfl) (by as_aux_lemma => kernel_rfl) (by exact set_map_row0 rfl) (by as_aux_lemma => kernel_rfl) (by as_aux_lemma => kernel_rfl) (by as_aux_lemma => kernel_rfl) ?_
          refine aa_done (by as_aux_lemma => kernel_rfl) ?_
          show _ = _; kernel_rfl
        obtain rfl := Option.some.inj h
        show ∃ _, _ ∧ Imp _ _ _
        refine ⟨_, rfl, ?_⟩
        exact imp_keepTo [0, 2, 3, 4] (by as_aux_lemma => kernel_rfl) (imp_done rfl)
      · replace h := cF h1 h
        refine a_skip ?_
        obtain rfl := Option.some.inj h
        show ∃ _, _ ∧ Imp _ _ _
        refine ⟨_, rfl, ?_⟩
        exact imp_keepTo [0, 2, 3, 4] (by as_aux_lemma => kernel_rfl) (imp_done rfl)
    intro j1 hj1
    replace h := ky1 _ hj1
    refine a_seq ?_
    refine a_seq ?_
    refine a_run [0, 2, 3, 4, 25] tyOK (st1 := mk 77 [(0, pV 0), (2, pV 2), (3, pV 3), (4, iV r2.2), (25, bV ((r2.2 == 1)))] [(0, [.bx [.fz (lC 1 eN_u8 j1.w0_0_0), iC j1.w0_0_1, iC j1.w0_0_2]]), (2, [.bx [.sl 6 ([]), .sl 6 ([])]]), (3, [.bx [lC 6 eLock j1.w3_0_0, lC 6 eLock r1.2.wait]])]) (by as_aux_lemma => kernel_rfl) ?_
    obtain ⟨y2, h, ky2⟩ := bndJ_e h
    refine a_joinT (ι := Xs_l07AnyLocks_2) (fun j => mk 77 [(0, pV 0), (2, pV 2), (3, pV 3), (4, iV r2.2)] [(0, [.bx [.fz (lC 1 eN_u8 j.w0_0_0), iC j.w0_0_1, iC j.w0_0_2]]), (2, [.bx [.sl 6 ([]), .sl 6 ([])]]), (3, [.bx [lC 6 eLock j.w3_0_0, lC 6 eLock r1.2.wait]])]) (fun j => y2 = j) ?_ ?_
    · refine a_cond (b := (r2.2 == 1)) (by as_aux_lemma => kernel_rfl) (fun h2 => ?_) (fun h2 => ?_)
      · replace h := cT h2 h
        obtain ⟨r4, er4, h⟩ := bnd_e h
        obtain ⟨c1, h⟩ := chk_e h
        refine a_mid (mk 77 [(0, pV 0), (2, pV 2), (3, pV 3), (4, iV r2.2)] [(0, [.bx [.fz (lC 1 eN_u8 r4.1.b), iC r4.1.i, iC r4.1.h]]), (2, [.bx [.sl 6 ([]), .sl 6 ([])]]), (3, [.bx [lC 6 eLock (j1.w3_0_0 ++ ([r4.2] : List Lock)), lC 6 eLock r1.2.wait]])]) ?_ ?_
        · refine a_drawn (n := 8) [3, 5, 7] (by as_aux_lemma => kernel_rfl) (by as_aux_lemma => kernel_rfl) ?_
          refine aa_with (fun K to of => ?_)
          have k1 : K 3 #[true, true, true, true, true, false, false, false] (mk 77 [(0, pV 0), (2, pV 2), (3, pV 3), (4, iV r2.2), (27, .one (.so [(3, 0)] 0 0 (((j1.w3_0_0).map eLock).length))), (30, .one (.so [] 30 0 1))] [(0, [.bx [.fz (lC 1 eN_u8 r4.1.b), iC r4.1.i, iC r4.1.h]]), (2, [.bx [.sl 6 ([]), .sl 6 ([])]]), (3, [.bx [lC 6 eLock j1.w3_0_0, lC 6 eLock r1.2.wait]]), (30, [.sl 6 ([[iC r4.2.tx.c, iC r4.2.tx.e, iC r4.2.tx.n, sC r4.2.range.lo, sC r4.2.range.hi, bC r4.2.ex]])])]) := of (by
            refine aa_all [5] (by as_aux_lemma => kernel_rfl) rfl ?_
            refine aa_cons ?_ aa_nil
            refine aone_append (listed' := #[true, true, true, true, true, true, false, false]) (d := 31) (n := (((j1.w3_0_0).map eLock).length)) (n' := ((j1.w3_0_0 ++ ([r4.2] : List Lock)).length)) (bytes := 64) (size := 6) (src := (some ([(3, 0)], 0, 0))) (rows := (j1.w3_0_0).map eLock) (tx := .one (.so [] 30 0 1)) (new := [[iC r4.2.tx.c, iC r4.2.tx.e, iC r4.2.tx.n, sC r4.2.range.lo, sC r4.2.range.hi, bC r4.2.ex]]) (rows' := (j1.w3_0_0 ++ ([r4.2] : List Lock)).map eLock) (st1 := mk 77 [(0, pV 0), (2, pV 2), (3, pV 3), (4, iV r2.2), (31, .one (.so [] 31 0 ((j1.w3_0_0 ++ ([r4.2] : List Lock)).length)))] [(0, [.bx [.fz (lC 1 eN_u8 r4.1.b), iC r4.1.i, iC r4.1.h]]), (2, [.bx [.sl 6 ([]), .sl 6 ([])]]), (3, [.bx [.dead, lC 6 eLock r1.2.wait]]), (31, [lC 6 eLock (j1.w3_0_0 ++ ([r4.2] : List Lock))])]) [0, 2, 3, 4, 31] tyOK (by as_aux_lemma => kernel_rfl) (by as_aux_lemma => kernel_rfl) (by simp) (by simpa using c1) (by as_aux_lemma => kernel_rfl) (by simp [bC, eLock, eRange, eTx, frzC, iC, sC]) (by simp) (by as_aux_lemma => kernel_rfl) (by as_aux_lemma => kernel_rfl) (by as_aux_lemma => kernel_rfl) ?_
            refine aa_takeM (fuel := 1) (listed' := #[true, true, true, true, true, true, true, false]) (l1 := [(0, pV 0), (2, pV 2), (3, pV 3), (4, iV r2.2), (31, .one (.so [] 31 0 ((j1.w3_0_0 ++ ([r4.2] : List Lock)).length))), (32, pV 3)]) [6] tyOK (by as_aux_lemma => kernel_rfl) (by as_aux_lemma => kernel_rfl) (by as_aux_lemma => kernel_rfl) ?_
            refine aa_all [7] (by as_aux_lemma => kernel_rfl) rfl ?_
            refine aa_cons ?_ aa_nil
            refine aone_o (ob := [(((j1.w3_0_0 ++ ([r4.2] : List Lock)).map eLock).length, (j1.w3_0_0 ++ ([r4.2] : List Lock)).length)]) (listed' := #[true, true, true, true, true, true, true, true]) (st1 := mk 77 [(0, pV 0), (2, pV 2), (3, pV 3), (4, iV r2.2)] [(0, [.bx [.fz (lC 1 eN_u8 r4.1.b), iC r4.1.i, iC r4.1.h]]), (2, [.bx [.sl 6 ([]), .sl 6 ([])]]), (3, [.bx [lC 6 eLock (j1.w3_0_0 ++ ([r4.2] : List Lock)), lC 6 eLock r1.2.wait]])]) [0, 2, 3, 4] tyOK (by as_aux_lemma => kernel_rfl) ⟨by simp, trivial⟩ (by as_aux_lemma => kernel_rfl) (by as_aux_lemma => kernel_rfl) ?_
            refine aa_done (by as_aux_lemma => kernel_rfl) ?_
            show _ = _; kernel_rfl)
          refine aa_takeP (fuel := 7) (listed' := #[true, false, false, false, false, false, false, false]) (st' := mk 77 [(0, pV 0), (2, pV 2), (3, pV 3), (4, iV r2.2), (26, pV 3)] [(0, [.bx [.fz (lC 1 eN_u8 j1.w0_0_0), iC j1.w0_0_1, iC j1.w0_0_2]]), (2, [.bx [.sl 6 ([]), .sl 6 ([])]]), (3, [.bx [lC 6 eLock j1.w3_0_0, lC 6 eLock r1.2.wait]])]) [0] [0, 2, 3, 4, 26] tyOK (by as_aux_lemma => kernel_rfl) (by as_aux_lemma => kernel_rfl) (by as_aux_lemma => kernel_rfl) ?_
          refine aa_takeM (fuel := 6) (listed' := #[true, false, true, false, false, false, false, false]) (l1 := [(0, pV 0), (2, pV 2), (3, pV 3), (4, iV r2.2), (26, pV 3), (28, pV 0)]) [2] tyOK (by as_aux_lemma => kernel_rfl) (by as_aux_lemma => kernel_rfl) (by as_aux_lemma => kernel_rfl) ?_
          refine aa_all [1, 3] (by as_aux_lemma => kernel_rfl) rfl ?_
          refine aa_cons ?_ ?_
          · refine aone_anyM (listed' := #[true, true, true, false, false, false, false, false]) (l1 := [(0, pV 0), (2, pV 2), (3, pV 3), (4, iV r2.2), (27, .one (.so [(3, 0)] 0 0 (((j1.w3_0_0).map eLock).length))), (28, pV 0)]) tyOK (by as_aux_lemma => kernel_rfl) (by as_aux_lemma => kernel_rfl) ?_
            refine aa_all [3] (by as_aux_lemma => kernel_rfl) rfl ?_
            refine aa_cons ?_ aa_nil
            refine aone_g2 (listed' := #[true, true, true, true, false, false, false, false]) (g := 54) (d := 29) (A := [pV 0]) (A' := [pV 0]) (cs := [.bx [.fz (lC 1 eN_u8 j1.w0_0_0), iC j1.w0_0_1, iC j1.w0_0_2]]) (outs := [.bx [.fz (lC 1 eN_u8 r4.1.b), iC r4.1.i, iC r4.1.h]]) (ps := [[(0, 0)]]) (st1 := mk 77 [(0, pV 0), (2, pV 2), (3, pV 3), (4, iV r2.2), (27, .one (.so [(3, 0)] 0 0 (((j1.w3_0_0).map eLock).length))), (29, .agg [.c (iC r4.2.tx.c), .c (iC r4.2.tx.e), .c (iC r4.2.tx.n), .c (sC r4.2.range.lo), .c (sC r4.2.range.hi), .c (bC r4.2.ex)])] [(0, [.bx [.fz (lC 1 eN_u8 r4.1.b), iC r4.1.i, iC r4.1.h]]), (2, [.bx [.sl 6 ([]), .sl 6 ([])]]), (3, [.bx [lC 6 eLock j1.w3_0_0, lC 6 eLock r1.2.wait]])]) [0, 2, 3, 4, 27, 29] (k_s_l07Lock ((⟨j1.w0_0_0, j1.w0_0_1, j1.w0_0_2⟩ : L01Cur)) r4 er4) Try.call54 (by as_aux_lemma => kernel_rfl) (.cons (.one (.pl 0 rfl rfl)) .nil) (handedN_of (szs := [0]) (by as_aux_lemma => kernel_rfl)) (by as_aux_lemma => kernel_rfl) (.bx .nil) (wholeFIO _ _ _ _) (by as_aux_lemma => kernel_rfl) (by as_aux_lemma => kernel_rfl) (by as_aux_lemma => kernel_rfl) (by as_aux_lemma => kernel_rfl) ?_
            refine aa_all [4] (by as_aux_lemma => kernel_rfl) rfl ?_
            refine aa_cons ?_ aa_nil
            refine aone_any (listed' := #[true, true, true, true, true, false, false, false]) (st1 := mk 77 [(0, pV 0), (2, pV 2), (3, pV 3), (4, iV r2.2), (27, .one (.so [(3, 0)] 0 0 (((j1.w3_0_0).map eLock).length))), (30, .one (.so [] 30 0 1))] [(0, [.bx [.fz (lC 1 eN_u8 r4.1.b), iC r4.1.i, iC r4.1.h]]), (2, [.bx [.sl 6 ([]), .sl 6 ([])]]), (3, [.bx [lC 6 eLock j1.w3_0_0, lC 6 eLock r1.2.wait]]), (30, [.sl 6 ([[iC r4.2.tx.c, iC r4.2.tx.e, iC r4.2.tx.n, sC r4.2.range.lo, sC r4.2.range.hi, bC r4.2.ex]])])]) [0, 2, 3, 4, 27, 30] tyOK (by as_aux_lemma => kernel_rfl) (by as_aux_lemma => kernel_rfl) ?_
            exact to k1
          refine aa_cons ?_ aa_nil
          refine aone_g2 (listed' := #[true, false, true, true, false, false, false, false]) (g := 54) (d := 29) (A := [pV 0]) (A' := [pV 0]) (cs := [.bx [.fz (lC 1 eN_u8 j1.w0_0_0), iC j1.w0_0_1, iC j1.w0_0_2]]) (outs := [.bx [.fz (lC 1 eN_u8 r4.1.b), iC r4.1.i, iC r4.1.h]]) (ps := [[(0, 0)]]) (st1 := mk 77 [(0, pV 0), (2, pV 2), (3, pV 3), (4, iV r2.2), (26, pV 3), (29, .agg [.c (iC r4.2.tx.c), .c (iC r4.2.tx.e), .c (iC r4.2.tx.n), .c (sC r4.2.range.lo), .c (sC r4.2.range.hi), .c (bC r4.2.ex)])] [(0, [.bx [.fz (lC 1 eN_u8 r4.1.b), iC r4.1.i, iC r4.1.h]]), (2, [.bx [.sl 6 ([]), .sl 6 ([])]]), (3, [.bx [lC 6 eLock j1.w3_0_0, lC 6 eLock r1.2.wait]])]) [0, 2, 3, 4, 26, 29] (k_s_l07Lock ((⟨j1.w0_0_0, j1.w0_0_1, j1.w0_0_2⟩ : L01Cur)) r4 er4) Try.call54 (by as_aux_lemma => kernel_rfl) (.cons (.one (.pl 0 rfl rfl)) .nil) (handedN_of (szs := [0]) (by as_aux_lemma => kernel_rfl)) (by as_aux_lemma => kernel_rfl) (.bx .nil) (wholeFIO _ _ _ _) (by as_aux_lemma => kernel_rfl) (by as_aux_lemma => kernel_rfl) (by as_aux_lemma => kernel_rfl) (by as_aux_lemma => kernel_rfl) ?_
          refine aa_takeM (fuel := 4) (listed' := #[true, true, true, true, false, false, false, false]) (l1 := [(0, pV 0), (2, pV 2), (3, pV 3), (4, iV r2.2), (27, .one (.so [(3, 0)] 0 0 (((j1.w3_0_0).map eLock).length))), (29, .agg [.c (iC r4.2.tx.c), .c (iC r4.2.tx.e), .c (iC r4.2.tx.n), .c (sC r4.2.range.lo), .c (sC r4.2.range.hi), .c (bC r4.2.ex)])]) [1] tyOK (by as_aux_lemma => kernel_rfl) (by as_aux_lemma => kernel_rfl) (by as_aux_lemma => kernel_rfl) ?_
          refine aa_all [4] (by as_aux_lemma => kernel_rfl) rfl ?_
          refine aa_cons ?_ aa_nil
          refine aone_any (listed' := #[true, true, true, true, true, false, false, false]) (st1 := mk 77 [(0, pV 0), (2, pV 2), (3, pV 3), (4, iV r2.2), (27, .one (.so [(3, 0)] 0 0 (((j1.w3_0_0).map eLock).length))), (30, .one (.so [] 30 0 1))] [(0, [.bx [.fz (lC 1 eN_u8 r4.1.b), iC r4.1.i, iC r4.1.h]]), (2, [.bx [.sl 6 ([]), .sl 6 ([])]]), (3, [.bx [lC 6 eLock j1.w3_0_0, lC 6 eLock r1.2.wait]]), (30, [.sl 6 ([[iC r4.2.tx.c, iC r4.2.tx.e, iC r4.2.tx.n, sC r4.2.range.lo, sC r4.2.range.hi, bC r4.2.ex]])])]) [0, 2, 3, 4, 27, 30] tyOK (by as_aux_lemma => kernel_rfl) (by as_aux_lemma => kernel_rfl) ?_
          exact to k1
        obtain rfl := Option.some.inj h
        show ∃ _, _ ∧ Imp _ _ _
        refine ⟨_, rfl, ?_⟩
        exact imp_keepTo [0, 2, 3, 4] (by as_aux_lemma => kernel_rfl) (imp_done rfl)
      · replace h := cF h2 h
        refine a_skip ?_
        obtain rfl := Option.some.inj h
        show ∃ _, _ ∧ Imp _ _ _
        refine ⟨_, rfl, ?_⟩
        exact imp_keepTo [0, 2, 3, 4] (by as_aux_lemma => kernel_rfl) (imp_done rfl)
    intro j2 hj2
    replace h := ky2 _ hj2
    refine a_seq ?_
    refine a_seq ?_
    refine a_run [0, 2, 3, 4, 34] tyOK (st1 := mk 77 [(0, pV 0), (2, pV 2), (3, pV 3), (4, iV r2.2), (34, bV ((r2.2 == 2)))] [(0, [.bx [.fz (lC 1 eN_u8 j2.w0_0_0), iC j2.w0_0_1, iC j2.w0_0_2]]), (2, [.bx [.sl 6 ([]), .sl 6 ([])]]), (3, [.bx [lC 6 eLock j2.w3_0_0, lC 6 eLock r1.2.wait]])]) (by as_aux_lemma => kernel_rfl) ?_
    obtain ⟨y3, h, ky3⟩ := bndJ_e h
    refine a_joinT (ι := Xs_l07AnyLocks_3) (fun j => mk 77 [(0, pV 0), (2, pV 2), (3, pV 3), (4, iV r2.2)] [(0, [.bx [.fz (lC 1 eN_u8 j.w0_0_0), iC j.w0_0_1, iC j.w0_0_2]]), (2, [.bx [.sl 6 ([]), .sl 6 ([])]]), (3, [.bx [lC 6 eLock j2.w3_0_0, lC 6 eLock j.w3_0_1]])]) (fun j => y3 = j) ?_ ?_
    · refine a_cond (b := (r2.2 == 2)) (by as_aux_lemma => kernel_rfl) (fun h3 => ?_) (fun h3 => ?_)
      · replace h := cT h3 h
        obtain ⟨r5, er5, h⟩ := bnd_e h
        obtain ⟨c2, h⟩ := chk_e h
        refine a_mid (mk 77 [(0, pV 0), (2, pV 2), (3, pV 3), (4, iV r2.2)] [(0, [.bx [.fz (lC 1 eN_u8 r5.1.b), iC r5.1.i, iC r5.1.h]]), (2, [.bx [.sl 6 ([]), .sl 6 ([])]]), (3, [.bx [lC 6 eLock j2.w3_0_0, lC 6 eLock (r1.2.wait ++ ([r5.2] : List Lock))]])]) ?_ ?_
        · refine a_drawn (n := 8) [3, 5, 7] (by as_aux_lemma => kernel_rfl) (by as_aux_lemma => kernel_rfl) ?_
          refine aa_with (fun K to of => ?_)
          have k2 : K 3 #[true, true, true, true, true, false, false, false] (mk 77 [(0, pV 0), (2, pV 2), (3, pV 3), (4, iV r2.2), (36, .one (.so [(3, 0)] 0 1 (((r1.2.wait).map eLock).length))), (39, .one (.so [] 39 0 1))] [(0, [.bx [.fz (lC 1 eN_u8 r5.1.b), iC r5.1.i, iC r5.1.h]]), (2, [.bx [.sl 6 ([]), .sl 6 ([])]]), (3, [.bx [lC 6 eLock j2.w3_0_0, lC 6 eLock r1.2.wait]]), (39, [.sl 6 ([[iC r5.2.tx.c, iC r5.2.tx.e, iC r5.2.tx.n, sC r5.2.range.lo, sC r5.2.range.hi, bC r5.2.ex]])])]) := of (by
            refine aa_all [5] (by as_aux_lemma => kernel_rfl) rfl ?_
            refine aa_cons ?_ aa_nil
            refine aone_append (listed' := #[true, true, true, true, true, true, false, false]) (d := 40) (n := (((r1.2.wait).map eLock).length)) (n' := ((r1.2.wait ++ ([r5.2] : List Lock)).length)) (bytes := 64) (size := 6) (src := (some ([(3, 0)], 0, 1))) (rows := (r1.2.wait).map eLock) (tx := .one (.so [] 39 0 1)) (new := [[iC r5.2.tx.c, iC r5.2.tx.e, iC r5.2.tx.n, sC r5.2.range.lo, sC r5.2.range.hi, bC r5.2.ex]]) (rows' := (r1.2.wait ++ ([r5.2] : List Lock)).map eLock) (st1 := mk 77 [(0, pV 0), (2, pV 2), (3, pV 3), (4, iV r2.2), (40, .one (.so [] 40 0 ((r1.2.wait ++ ([r5.2] : List Lock)).length)))] [(0, [.bx [.fz (lC 1 eN_u8 r5.1.b), iC r5.1.i, iC r5.1.h]]), (2, [.bx [.sl 6 ([]), .sl 6 ([])]]), (3, [.bx [lC 6 eLock j2.w3_0_0, .dead]]), (40, [lC 6 eLock (r1.2.wait ++ ([r5.2] : List Lock))])]) [0, 2, 3, 4, 40] tyOK (by as_aux_lemma => kernel_rfl) (by as_aux_lemma => kernel_rfl) (by simp) (by simpa using c2) (by as_aux_lemma => kernel_rfl) (by simp [bC, eLock, eRange, eTx, frzC, iC, sC]) (by simp) (by as_aux_lemma => kernel_rfl) (by as_aux_lemma => kernel_rfl) (by as_aux_lemma => kernel_rfl) ?_
            refine aa_takeM (fuel := 1) (listed' := #[true, true, true, true, true, true, true, false]) (l1 := [(0, pV 0), (2, pV 2), (3, pV 3), (4, iV r2.2), (40, .one (.so [] 40 0 ((r1.2.wait ++ ([r5.2] : List Lock)).length))), (41, .one (.pl [(3, 0)] 0 1))]) [6] tyOK (by as_aux_lemma => kernel_rfl) (by as_aux_lemma => kernel_rfl) (by as_aux_lemma => kernel_rfl) ?_
            refine aa_all [7] (by as_aux_lemma => kernel_rfl) rfl ?_
            refine aa_cons ?_ aa_nil
            refine aone_o (ob := [(((r1.2.wait ++ ([r5.2] : List Lock)).map eLock).length, (r1.2.wait ++ ([r5.2] : List Lock)).length)]) (listed' := #[true, true, true, true, true, true, true, true]) (st1 := mk 77 [(0, pV 0), (2, pV 2), (3, pV 3), (4, iV r2.2)] [(0, [.bx [.fz (lC 1 eN_u8 r5.1.b), iC r5.1.i, iC r5.1.h]]), (2, [.bx [.sl 6 ([]), .sl 6 ([])]]), (3, [.bx [lC 6 eLock j2.w3_0_0, lC 6 eLock (r1.2.wait ++ ([r5.2] : List Lock))]])]) [0, 2, 3, 4] tyOK (by as_aux_lemma => kernel_rfl) ⟨by simp, trivial⟩ (by as_aux_lemma => kernel_rfl) (by as_aux_lemma => kernel_rfl) ?_
            refine aa_done (by as_aux_lemma => kernel_rfl) ?_
            show _ = _; kernel_rfl)
          refine aa_takeP (fuel := 7) (listed' := #[true, false, false, false, false, false, false, false]) (st' := mk 77 [(0, pV 0), (2, pV 2), (3, pV 3), (4, iV r2.2), (35, .one (.pl [(3, 0)] 0 1))] [(0, [.bx [.fz (lC 1 eN_u8 j2.w0_0_0), iC j2.w0_0_1, iC j2.w0_0_2]]), (2, [.bx [.sl 6 ([]), .sl 6 ([])]]), (3, [.bx [lC 6 eLock j2.w3_0_0, lC 6 eLock r1.2.wait]])]) [0] [0, 2, 3, 4, 35] tyOK (by as_aux_lemma => kernel_rfl) (by as_aux_lemma => kernel_rfl) (by as_aux_lemma => kernel_rfl) ?_
          refine aa_takeM (fuel := 6) (listed' := #[true, false, true, false, false, false, false, false]) (l1 := [(0, pV 0), (2, pV 2), (3, pV 3), (4, iV r2.2), (35, .one (.pl [(3, 0)] 0 1)), (37, pV 0)]) [2] tyOK (by as_aux_lemma => kernel_rfl) (by as_aux_lemma => kernel_rfl) (by as_aux_lemma => kernel_rfl) ?_
          refine aa_all [1, 3] (by as_aux_lemma => kernel_rfl) rfl ?_
          refine aa_cons ?_ ?_
          · refine aone_anyM (listed' := #[true, true, true, false, false, false, false, false]) (l1 := [(0, pV 0), (2, pV 2), (3, pV 3), (4, iV r2.2), (36, .one (.so [(3, 0)] 0 1 (((r1.2.wait).map eLock).length))), (37, pV 0)]) tyOK (by as_aux_lemma => kernel_rfl) (by as_aux_lemma => kernel_rfl) ?_
            refine aa_all [3] (by as_aux_lemma => kernel_rfl) rfl ?_
            refine aa_cons ?_ aa_nil
            refine aone_g2 (listed' := #[true, true, true, true, false, false, false, false]) (g := 54) (d := 38) (A := [pV 0]) (A' := [pV 0]) (cs := [.bx [.fz (lC 1 eN_u8 j2.w0_0_0), iC j2.w0_0_1, iC j2.w0_0_2]]) (outs := [.bx [.fz (lC 1 eN_u8 r5.1.b), iC r5.1.i, iC r5.1.h]]) (ps := [[(0, 0)]]) (st1 := mk 77 [(0, pV 0), (2, pV 2), (3, pV 3), (4, iV r2.2), (36, .one (.so [(3, 0)] 0 1 (((r1.2.wait).map eLock).length))), (38, .agg [.c (iC r5.2.tx.c), .c (iC r5.2.tx.e), .c (iC r5.2.tx.n), .c (sC r5.2.range.lo), .c (sC r5.2.range.hi), .c (bC r5.2.ex)])] [(0, [.bx [.fz (lC 1 eN_u8 r5.1.b), iC r5.1.i, iC r5.1.h]]), (2, [.bx [.sl 6 ([]), .sl 6 ([])]]), (3, [.bx [lC 6 eLock j2.w3_0_0, lC 6 eLock r1.2.wait]])]) [0, 2, 3, 4, 36, 38] (k_s_l07Lock ((⟨j2.w0_0_0, j2.w0_0_1, j2.w0_0_2⟩ : L01Cur)) r5 er5) Try.call54 (by as_aux_lemma => kernel_rfl) (.cons (.one (.pl 0 rfl rfl)) .nil) (handedN_of (szs := [0]) (by as_aux_lemma => kernel_rfl)) (by as_aux_lemma => kernel_rfl) (.bx .nil) (wholeFIO _ _ _ _) (by as_aux_lemma => kernel_rfl) (by as_aux_lemma => kernel_rfl) (by as_aux_lemma => kernel_rfl) (by as_aux_lemma => kernel_rfl) ?_
            refine aa_all [4] (by as_aux_lemma => kernel_rfl) rfl ?_
            refine aa_cons ?_ aa_nil
            refine aone_any (listed' := #[true, true, true, true, true, false, false, false]) (st1 := mk 77 [(0, pV 0), (2, pV 2), (3, pV 3), (4, iV r2.2), (36, .one (.so [(3, 0)] 0 1 (((r1.2.wait).map eLock).length))), (39, .one (.so [] 39 0 1))] [(0, [.bx [.fz (lC 1 eN_u8 r5.1.b), iC r5.1.i, iC r5.1.h]]), (2, [.bx [.sl 6 ([]), .sl 6 ([])]]), (3, [.bx [lC 6 eLock j2.w3_0_0, lC 6 eLock r1.2.wait]]), (39, [.sl 6 ([[iC r5.2.tx.c, iC r5.2.tx.e, iC r5.2.tx.n, sC r5.2.range.lo, sC r5.2.range.hi, bC r5.2.ex]])])]) [0, 2, 3, 4, 36, 39] tyOK (by as_aux_lemma => kernel_rfl) (by as_aux_lemma => kernel_rfl) ?_
            exact to k2
          refine aa_cons ?_ aa_nil
          refine aone_g2 (listed' := #[true, false, true, true, false, false, false, false]) (g := 54) (d := 38) (A := [pV 0]) (A' := [pV 0]) (cs := [.bx [.fz (lC 1 eN_u8 j2.w0_0_0), iC j2.w0_0_1, iC j2.w0_0_2]]) (outs := [.bx [.fz (lC 1 eN_u8 r5.1.b), iC r5.1.i, iC r5.1.h]]) (ps := [[(0, 0)]]) (st1 := mk 77 [(0, pV 0), (2, pV 2), (3, pV 3), (4, iV r2.2), (35, .one (.pl [(3, 0)] 0 1)), (38, .agg [.c (iC r5.2.tx.c), .c (iC r5.2.tx.e), .c (iC r5.2.tx.n), .c (sC r5.2.range.lo), .c (sC r5.2.range.hi), .c (bC r5.2.ex)])] [(0, [.bx [.fz (lC 1 eN_u8 r5.1.b), iC r5.1.i, iC r5.1.h]]), (2, [.bx [.sl 6 ([]), .sl 6 ([])]]), (3, [.bx [lC 6 eLock j2.w3_0_0, lC 6 eLock r1.2.wait]])]) [0, 2, 3, 4, 35, 38] (k_s_l07Lock ((⟨j2.w0_0_0, j2.w0_0_1, j2.w0_0_2⟩ : L01Cur)) r5 er5) Try.call54 (by as_aux_lemma => kernel_rfl) (.cons (.one (.pl 0 rfl rfl)) .nil) (handedN_of (szs := [0]) (by as_aux_lemma => kernel_rfl)) (by as_aux_lemma => kernel_rfl) (.bx .nil) (wholeFIO _ _ _ _) (by as_aux_lemma => kernel_rfl) (by as_aux_lemma => kernel_rfl) (by as_aux_lemma => kernel_rfl) (by as_aux_lemma => kernel_rfl) ?_
          refine aa_takeM (fuel := 4) (listed' := #[true, true, true, true, false, false, false, false]) (l1 := [(0, pV 0), (2, pV 2), (3, pV 3), (4, iV r2.2), (36, .one (.so [(3, 0)] 0 1 (((r1.2.wait).map eLock).length))), (38, .agg [.c (iC r5.2.tx.c), .c (iC r5.2.tx.e), .c (iC r5.2.tx.n), .c (sC r5.2.range.lo), .c (sC r5.2.range.hi), .c (bC r5.2.ex)])]) [1] tyOK (by as_aux_lemma => kernel_rfl) (by as_aux_lemma => kernel_rfl) (by as_aux_lemma => kernel_rfl) ?_
          refine aa_all [4] (by as_aux_lemma => kernel_rfl) rfl ?_
          refine aa_cons ?_ aa_nil
          refine aone_any (listed' := #[true, true, true, true, true, false, false, false]) (st1 := mk 77 [(0, pV 0), (2, pV 2), (3, pV 3), (4, iV r2.2), (36, .one (.so [(3, 0)] 0 1 (((r1.2.wait).map eLock).length))), (39, .one (.so [] 39 0 1))] [(0, [.bx [.fz (lC 1 eN_u8 r5.1.b), iC r5.1.i, iC r5.1.h]]), (2, [.bx [.sl 6 ([]), .sl 6 ([])]]), (3, [.bx [lC 6 eLock j2.w3_0_0, lC 6 eLock r1.2.wait]]), (39, [.sl 6 ([[iC r5.2.tx.c, iC r5.2.tx.e, iC r5.2.tx.n, sC r5.2.range.lo, sC r5.2.range.hi, bC r5.2.ex]])])]) [0, 2, 3, 4, 36, 39] tyOK (by as_aux_lemma => kernel_rfl) (by as_aux_lemma => kernel_rfl) ?_
          exact to k2
        obtain rfl := Option.some.inj h
        show ∃ _, _ ∧ Imp _ _ _
        refine ⟨_, rfl, ?_⟩
        exact imp_keepTo [0, 2, 3, 4] (by as_aux_lemma => kernel_rfl) (imp_done rfl)
      · replace h := cF h3 h
        refine a_skip ?_
        obtain rfl := Option.some.inj h
        show ∃ _, _ ∧ Imp _ _ _
        refine ⟨_, rfl, ?_⟩
        exact imp_keepTo [0, 2, 3, 4] (by as_aux_lemma => kernel_rfl) (imp_done rfl)
    intro j3 hj3
    replace h := ky3 _ hj3
    refine a_seq ?_
    refine a_seq ?_
    refine a_mid (mk 77 [(0, pV 0), (2, pV 2), (3, pV 3), (4, iV r2.2), (49, bV (bif ((r2.2 == 3)) then (decide ((((((j3.w3_0_1).map eLock).length : Nat) : Int)) > 0)) else false))] [(0, [.bx [.fz (lC 1 eN_u8 j3.w0_0_0), iC j3.w0_0_1, iC j3.w0_0_2]]), (2, [.bx [.sl 6 ([]), .sl 6 ([])]]), (3, [.bx [lC 6 eLock j2.w3_0_0, lC 6 eLock j3.w3_0_1]])]) ?_ ?_
    · refine a_ops [0, 1, 2, 3, 4, 5, 6, 7] (by as_aux_lemma => kernel_rfl) ?_
      refine ao_some [0, 1, 2] [3, 4, 5, 6, 7] [0, 2, 3, 4, 44] tyOK (st1 := mk 77 [(0, pV 0), (2, pV 2), (3, pV 3), (4, iV r2.2), (44, bV ((r2.2 == 3)))] [(0, [.bx [.fz (lC 1 eN_u8 j3.w0_0_0), iC j3.w0_0_1, iC j3.w0_0_2]]), (2, [.bx [.sl 6 ([]), .sl 6 ([])]]), (3, [.bx [lC 6 eLock j2.w3_0_0, lC 6 eLock j3.w3_0_1]])]) (by as_aux_lemma => kernel_rfl) ?_
      rcases Bool.eq_false_or_eq_true ((r2.2 == 3)) with h4 | h4
      · refine ao_saysM (k := 44) (t := bV ((r2.2 == 3))) (t' := bV true) (l1 := [(0, pV 0), (2, pV 2), (3, pV 3), (4, iV r2.2), (44, bV true)]) (by as_aux_lemma => kernel_rfl) (by rw [h4]) (by as_aux_lemma => kernel_rfl) ?_
        refine ao_someM [3, 4, 5, 6, 7] [] tyOK (l1 := [(0, pV 0), (2, pV 2), (3, pV 3), (4, iV r2.2), (49, bV (decide ((((((j3.w3_0_1).map eLock).length : Nat) : Int)) > 0)))]) (by as_aux_lemma => kernel_rfl) ?_
        refine ao_nil ?_
        show mk 77 [(0, pV 0), (2, pV 2), (3, pV 3), (4, iV r2.2), (49, bV (decide ((((((j3.w3_0_1).map eLock).length : Nat) : Int)) > 0)))] [(0, [.bx [.fz (lC 1 eN_u8 j3.w0_0_0), iC j3.w0_0_1, iC j3.w0_0_2]]), (2, [.bx [.sl 6 ([]), .sl 6 ([])]]), (3, [.bx [lC 6 eLock j2.w3_0_0, lC 6 eLock j3.w3_0_1]])] = mk 77 [(0, pV 0), (2, pV 2), (3, pV 3), (4, iV r2.2), (49, bV (bif ((r2.2 == 3)) then (decide ((((((j3.w3_0_1).map eLock).length : Nat) : Int)) > 0)) else false))] [(0, [.bx [.fz (lC 1 eN_u8 j3.w0_0_0), iC j3.w0_0_1, iC j3.w0_0_2]]), (2, [.bx [.sl 6 ([]), .sl 6 ([])]]), (3, [.bx [lC 6 eLock j2.w3_0_0, lC 6 eLock j3.w3_0_1]])]
        first | rfl | (simp only [h4, cond_true, cond_false]) | (simp only [h4, cond_true, cond_false]; rfl)
      · refine ao_saysM (k := 44) (t := bV ((r2.2 == 3))) (t' := bV false) (l1 := [(0, pV 0), (2, pV 2), (3, pV 3), (4, iV r2.2), (44, bV false)]) (by as_aux_lemma => kernel_rfl) (by rw [h4]) (by as_aux_lemma => kernel_rfl) ?_
        refine ao_someM [3, 4, 5, 6, 7] [] tyOK (l1 := [(0, pV 0), (2, pV 2), (3, pV 3), (4, iV r2.2), (49, bV false)]) (by as_aux_lemma => kernel_rfl) ?_
        refine ao_nil ?_
        show mk 77 [(0, pV 0), (2, pV 2), (3, pV 3), (4, iV r2.2), (49, bV false)] [(0, [.bx [.fz (lC 1 eN_u8 j3.w0_0_0), iC j3.w0_0_1, iC j3.w0_0_2]]), (2, [.bx [.sl 6 ([]), .sl 6 ([])]]), (3, [.bx [lC 6 eLock j2.w3_0_0, lC 6 eLock j3.w3_0_1]])] = mk 77 [(0, pV 0), (2, pV 2), (3, pV 3), (4, iV r2.2), (49, bV (bif ((r2.2 == 3)) then (decide ((((((j3.w3_0_1).map eLock).length : Nat) : Int)) > 0)) else false))] [(0, [.bx [.fz (lC 1 eN_u8 j3.w0_0_0), iC j3.w0_0_1, iC j3.w0_0_2]]), (2, [.bx [.sl 6 ([]), .sl 6 ([])]]), (3, [.bx [lC 6 eLock j2.w3_0_0, lC 6 eLock j3.w3_0_1]])]
        first | rfl | (simp only [h4, cond_true, cond_false]) | (simp only [h4, cond_true, cond_false]; rfl)
    obtain ⟨y4, h, ky4⟩ := bndJ_e h
    refine a_joinT (ι := Xs_l07AnyLocks_4) (fun j => mk 77 [(0, pV 0), (2, pV 2), (3, pV 3), (4, iV r2.2)] [(0, [.bx [.fz (lC 1 eN_u8 j.w0_0_0), iC j.w0_0_1, iC j.w0_0_2]]), (2, [.bx [.sl 6 ([]), .sl 6 ([])]]), (3, [.bx [lC 6 eLock j2.w3_0_0, lC 6 eLock j.w3_0_1]])]) (fun j => y4 = j) ?_ ?_
    · refine a_cond (b := bif ((r2.2 == 3)) then (decide ((((((j3.w3_0_1).map eLock).length : Nat) : Int)) > 0)) else false) (by as_aux_lemma => kernel_rfl) (fun h4 => ?_) (fun h4 => ?_)
      · replace h := cT h4 h
        obtain ⟨r6, er6, h⟩ := bnd_e h
        obtain ⟨x2, ex2, h⟩ := bnd_e h
        refine a_mid (mk 77 [(0, pV 0), (2, pV 2), (3, pV 3), (4, iV r2.2)] [(0, [.bx [.fz (lC 1 eN_u8 r6.1.b), iC r6.1.i, iC r6.1.h]]), (2, [.bx [.sl 6 ([]), .sl 6 ([])]]), (3, [.bx [lC 6 eLock j2.w3_0_0, lC 6 eLock (j3.w3_0_1.set 0 ((⟨r6.2, x2.range, x2.ex⟩ : Lock)))]])]) ?_ ?_
        · refine a_drawn (n := 7) [3, 6] (by as_aux_lemma => kernel_rfl) (by as_aux_lemma => kernel_rfl) ?_
          refine aa_takeP (fuel := 6) (listed' := #[true, false, false, false, false, false, false]) (st' := mk 77 [(0, pV 0), (2, pV 2), (3, pV 3), (4, iV r2.2), (50, .one (.pl [(3, 0)] 0 1))] [(0, [.bx [.fz (lC 1 eN_u8 j3.w0_0_0), iC j3.w0_0_1, iC j3.w0_0_2]]), (2, [.bx [.sl 6 ([]), .sl 6 ([])]]), (3, [.bx [lC 6 eLock j2.w3_0_0, lC 6 eLock j3.w3_0_1]])]) [0] [0, 2, 3, 4, 50] tyOK (by as_aux_lemma => kernel_rfl) (by as_aux_lemma => kernel_rfl) (by as_aux_lemma => kernel_rfl) ?_
          refine aa_takeM (fuel := 5) (listed' := #[true, false, true, false, false, false, false]) (l1 := [(0, pV 0), (2, pV 2), (3, pV 3), (4, iV r2.2), (50, .one (.pl [(3, 0)] 0 1)), (52, pV 0)]) [2] tyOK (by as_aux_lemma => kernel_rfl) (by as_aux_lemma => kernel_rfl) (by as_aux_lemma => kernel_rfl) ?_
          refine aa_all [1, 3] (by as_aux_lemma => kernel_rfl) rfl ?_
          refine aa_cons ?_ ?_
          · refine aone_anyM (listed' := #[true, true, true, false, false, false, false]) (l1 := [(0, pV 0), (2, pV 2), (3, pV 3), (4, iV r2.2), (51, .one (.so [(3, 0)] 0 1 (((j3.w3_0_1).map eLock).length))), (52, pV 0)]) tyOK (by as_aux_lemma => kernel_rfl) (by as_aux_lemma => kernel_rfl) ?_
            refine aa_all [3] (by as_aux_lemma => kernel_rfl) rfl ?_
            refine aa_cons ?_ aa_nil
            refine aone_g2 (listed' := #[true, true, true, true, false, false, false]) (g := 56) (d := 53) (A := [pV 0]) (A' := [pV 0]) (cs := [.bx [.fz (lC 1 eN_u8 j3.w0_0_0), iC j3.w0_0_1, iC j3.w0_0_2]]) (outs := [.bx [.fz (lC 1 eN_u8 r6.1.b), iC r6.1.i, iC r6.1.h]]) (ps := [[(0, 0)]]) (st1 := mk 77 [(0, pV 0), (2, pV 2), (3, pV 3), (4, iV r2.2), (51, .one (.so [(3, 0)] 0 1 (((j3.w3_0_1).map eLock).length))), (53, .agg [.c (iC r6.2.c), .c (iC r6.2.e), .c (iC r6.2.n)])] [(0, [.bx [.fz (lC 1 eN_u8 r6.1.b), iC r6.1.i, iC r6.1.h]]), (2, [.bx [.sl 6 ([]), .sl 6 ([])]]), (3, [.bx [lC 6 eLock j2.w3_0_0, lC 6 eLock j3.w3_0_1]])]) [0, 2, 3, 4, 51, 53] (k_s_l07AnyTx ((⟨j3.w0_0_0, j3.w0_0_1, j3.w0_0_2⟩ : L01Cur)) r6 er6) Try.call56 (by as_aux_lemma => kernel_rfl) (.cons (.one (.pl 0 rfl rfl)) .nil) (handedN_of (szs := [0]) (by as_aux_lemma => kernel_rfl)) (by as_aux_lemma => kernel_rfl) (.bx .nil) (wholeFIO _ _ _ _) (by as_aux_lemma => kernel_rfl) (by as_aux_lemma => kernel_rfl) (by as_aux_lemma => kernel_rfl) (by as_aux_lemma => kernel_rfl) ?_
            refine aa_indexOwn (i := 4) (listed' := #[true, true, true, true, true, false, false]) (d := 54) (size := 6) (n0 := (((j3.w3_0_1).map eLock).length)) (n := 0) (p := [(3, 0), (0, 1)]) (rows := (j3.w3_0_1).map eLock) (st1 := mk 77 [(0, pV 0), (2, pV 2), (3, pV 3), (4, iV r2.2), (53, .agg [.c (iC r6.2.c), .c (iC r6.2.e), .c (iC r6.2.n)]), (54, .one (.pl [(3, 0), (0, 1)] 0 0))] [(0, [.bx [.fz (lC 1 eN_u8 r6.1.b), iC r6.1.i, iC r6.1.h]]), (2, [.bx [.sl 6 ([]), .sl 6 ([])]]), (3, [.bx [lC 6 eLock j2.w3_0_0, lC 6 eLock j3.w3_0_1]])]) [iC x2.tx.c, iC x2.tx.e, iC x2.tx.n, sC x2.range.lo, sC x2.range.hi, bC x2.ex] [0, 2, 3, 4, 53, 54] tyOK (by as_aux_lemma => kernel_rfl) (by as_aux_lemma => kernel_rfl) (by simpa using getI_both ex2) (by exact get_map (en := eLock) (getI_e ex2).2) (by as_aux_lemma => kernel_rfl) (by as_aux_lemma => kernel_rfl) (by as_aux_lemma => kernel_rfl) (by as_aux_lemma => kernel_rfl) ?_
            refine aa_takeM (fuel := 1) (listed' := #[true, true, true, true, true, true, false]) (l1 := [(0, pV 0), (2, pV 2), (3, pV 3), (4, iV r2.2), (53, .agg [.c (iC r6.2.c), .c (iC r6.2.e), .c (iC r6.2.n)]), (55, .one (.pl [(3, 0), (0, 1)] 0 0))]) [5] tyOK (by as_aux_lemma => kernel_rfl) (by as_aux_lemma => kernel_rfl) (by as_aux_lemma => kernel_rfl) ?_
            refine aa_all [6] (by as_aux_lemma => kernel_rfl) rfl ?_
            refine aa_cons ?_ aa_nil
            refine aone_storeAt (listed' := #[true, true, true, true, true, true, true]) (n := 0) (f := 0) (q := [(3, 0), (0, 1)]) (rows := (j3.w3_0_1).map eLock) (rows' := (j3.w3_0_1.set 0 ((⟨r6.2, x2.range, x2.ex⟩ : Lock))).map eLock) (szs := []) (ts := [.c (iC r6.2.c), .c (iC r6.2.e), .c (iC r6.2.n)]) (t1 := (mk 77 [(0, pV 0), (2, pV 2), (3, pV 3), (4, iV r2.2), (53, .agg [.c (iC r6.2.c), .c (iC r6.2.e), .c (iC r6.2.n)]), (55, .one (.pl [(3, 0), (0, 1)] 0 0))] [(0, [.bx [.fz (lC 1 eN_u8 r6.1.b), iC r6.1.i, iC r6.1.h]]), (2, [.bx [.sl 6 ([]), .sl 6 ([])]]), (3, [.bx [lC 6 eLock j2.w3_0_0, lC 6 eLock j3.w3_0_1]])]).t) (st1 := mk 77 [(0, pV 0), (2, pV 2), (3, pV 3), (4, iV r2.2)] [(0, [.bx [.fz (lC 1 eN_u8 r6.1.b), iC r6.1.i, iC r6.1.h]]), (2, [.bx [.sl 6 ([]), .sl 6 ([])]]), (3, [.bx [lC 6 eLock j2.w3_0_0, lC 6 eLock (j3.w3_0_1.set 0 ((⟨r6.2, x2.range, x2.ex⟩ : Lock)))]])]) [iC x2.tx.c, iC x2.tx.e, iC x2.tx.n, sC x2.range.lo, sC x2.range.hi, bC x2.ex] [0, 2, 3, 4] tyOK (by as_aux_lemma => kernel_rfl) (by exact get_map (en := eLock) (getI_e ex2).2) (Nat.le_of_ble_eq_true rfl) (by as_aux_lemma => kernel_rfl) (by exact set_map_row0 rfl) (by as_aux_lemma => kernel_rfl) (by as_aux_lemma => kernel_rfl) (by as_aux_lemma => kernel_rfl) ?_
            refine aa_done (by as_aux_lemma => kernel_rfl) ?_
            show _ = _; kernel_rfl
          refine aa_cons ?_ aa_nil
          refine aone_g2 (listed' := #[true, false, true, true, false, false, false]) (g := 56) (d := 53) (A := [pV 0]) (A' := [pV 0]) (cs := [.bx [.fz (lC 1 eN_u8 j3.w0_0_0), iC j3.w0_0_1, iC j3.w0_0_2]]) (outs := [.bx [.fz (lC 1 eN_u8 r6.1.b), iC r6.1.i, iC r6.1.h]]) (ps := [[(0, 0)]]) (st1 := mk 77 [(0, pV 0), (2, pV 2), (3, pV 3), (4, iV r2.2), (50, .one (.pl [(3, 0)] 0 1)), (53, .agg [.c (iC r6.2.c), .c (iC r6.2.e), .c (iC r6.2.n)])] [(0, [.bx [.fz (lC 1 eN_u8 r6.1.b), iC r6.1.i, iC r6.1.h]]), (2, [.bx [.sl 6 ([]), .sl 6 ([])]]), (3, [.bx [lC 6 eLock j2.w3_0_0, lC 6 eLock j3.w3_0_1]])]) [0, 2, 3, 4, 50, 53] (k_s_l07AnyTx ((⟨j3.w0_0_0, j3.w0_0_1, j3.w0_0_2⟩ : L01Cur)) r6 er6) Try.call56 (by as_aux_lemma => kernel_rfl) (.cons (.one (.pl 0 rfl rfl)) .nil) (handedN_of (szs := [0]) (by as_aux_lemma => kernel_rfl)) (by as_aux_lemma => kernel_rfl) (.bx .nil) (wholeFIO _ _ _ _) (by as_aux_lemma => kernel_rfl) (by as_aux_lemma => kernel_rfl) (by as_aux_lemma => kernel_rfl) (by as_aux_lemma => kernel_rfl) ?_
          refine aa_takeM (fuel := 3) (listed' := #[true, true, true, true, false, false, false]) (l1 := [(0, pV 0), (2, pV 2), (3, pV 3), (4, iV r2.2), (51, .one (.so [(3, 0)] 0 1 (((j3.w3_0_1).map eLock).length))), (53, .agg [.c (iC r6.2.c), .c (iC r6.2.e), .c (iC r6.2.n)])]) [1] tyOK (by as_aux_lemma => kernel_rfl) (by as_aux_lemma => kernel_rfl) (by as_aux_lemma => kernel_rfl) ?_
          refine aa_indexOwn (i := 4) (listed' := #[true, true, true, true, true, false, false]) (d := 54) (size := 6) (n0 := (((j3.w3_0_1).map eLock).length)) (n := 0) (p := [(3, 0), (0, 1)]) (rows := (j3.w3_0_1).map eLock) (st1 := mk 77 [(0, pV 0), (2, pV 2), (3, pV 3), (4, iV r2.2), (53, .agg [.c (iC r6.2.c), .c (iC r6.2.e), .c (iC r6.2.n)]), (54, .one (.pl [(3, 0), (0, 1)] 0 0))] [(0, [.bx [.fz (lC 1 eN_u8 r6.1.b), iC r6.1.i, iC r6.1.h]]), (2, [.bx [.sl 6 ([]), .sl 6 ([])]]), (3, [.bx [lC 6 eLock j2.w3_0_0, lC 6 eLock j3.w3_0_1]])]) [iC x2.tx.c, iC x2.tx.e, iC x2.tx.n, sC x2.range.lo, sC x2.range.hi, bC x2.ex] [0, 2, 3, 4, 53, 54] tyOK (by as_aux_lemma => kernel_rfl) (by as_aux_lemma => kernel_rfl) (by simpa using getI_both ex2) (by exact get_map (en := eLock) (getI_e ex2).2) (by as_aux_lemma => kernel_rfl) (by as_aux_lemma => kernel_rfl) (by as_aux_lemma => kernel_rfl) (by as_aux_lemma => kernel_rfl) ?_
          refine aa_takeM (fuel := 1) (listed' := #[true, true, true, true, true, true, false]) (l1 := [(0, pV 0), (2, pV 2), (3, pV 3), (4, iV r2.2), (53, .agg [.c (iC r6.2.c), .c (iC r6.2.e), .c (iC r6.2.n)]), (55, .one (.pl [(3, 0), (0, 1)] 0 0))]) [5] tyOK (by as_aux_lemma => kernel_rfl) (by as_aux_lemma => kernel_rfl) (by as_aux_lemma => kernel_rfl) ?_
          refine aa_all [6] (by as_aux_lemma => kernel_rfl) rfl ?_
          refine aa_cons ?_ aa_nil
          refine aone_storeAt (listed' := #[true, true, true, true, true, true, true]) (n := 0) (f := 0) (q := [(3, 0), (0, 1)]) (rows := (j3.w3_0_1).map eLock) (rows' := (j3.w3_0_1.set 0 ((⟨r6.2, x2.range, x2.ex⟩ : Lock))).map eLock) (szs := []) (ts := [.c (iC r6.2.c), .c (iC r6.2.e), .c (iC r6.2.n)]) (t1 := (mk 77 [(0, pV 0), (2, pV 2), (3, pV 3), (4, iV r2.2), (53, .agg [.c (iC r6.2.c), .c (iC r6.2.e), .c (iC r6.2.n)]), (55, .one (.pl [(3, 0), (0, 1)] 0 0))] [(0, [.bx [.fz (lC 1 eN_u8 r6.1.b), iC r6.1.i, iC r6.1.h]]), (2, [.bx [.sl 6 ([]), .sl 6 ([])]]), (3, [.bx [lC 6 eLock j2.w3_0_0, lC 6 eLock j3.w3_0_1]])]).t) (st1 := mk 77 [(0, pV 0), (2, pV 2), (3, pV 3), (4, iV r2.2)] [(0, [.bx [.fz (lC 1 eN_u8 r6.1.b), iC r6.1.i, iC r6.1.h]]), (2, [.bx [.sl 6 ([]), .sl 6 ([])]]), (3, [.bx [lC 6 eLock j2.w3_0_0, lC 6 eLock (j3.w3_0_1.set 0 ((⟨r6.2, x2.range, x2.ex⟩ : Lock)))]])]) [iC x2.tx.c, iC x2.tx.e, iC x2.tx.n, sC x2.range.lo, sC x2.range.hi, bC x2.ex] [0, 2, 3, 4] tyOK (by as_aux_lemma => kernel_rfl) (by exact get_map (en := eLock) (getI_e ex2).2) (Nat.le_of_ble_eq_true rfl) (by as_aux_lemma => kernel_rfl) (by exact set_map_row0 rfl) (by as_aux_lemma => kernel_rfl) (by as_aux_lemma => kernel_rfl) (by as_aux_lemma => kernel_rfl) ?_
          refine aa_done (by as_aux_lemma => kernel_rfl) ?_
          show _ = _; kernel_rfl
        obtain rfl := Option.some.inj h
        show ∃ _, _ ∧ Imp _ _ _
        refine ⟨_, rfl, ?_⟩
        exact imp_keepTo [0, 2, 3, 4] (by as_aux_lemma => kernel_rfl) (imp_done rfl)
      · replace h := cF h4 h
        refine a_skip ?_
        obtain rfl := Option.some.inj h
        show ∃ _, _ ∧ Imp _ _ _
        refine ⟨_, rfl, ?_⟩
        exact imp_keepTo [0, 2, 3, 4] (by as_aux_lemma => kernel_rfl) (imp_done rfl)
    intro j4 hj4
    replace h := ky4 _ hj4
    refine a_seq ?_
    refine a_seq ?_
    refine a_run [0, 2, 3, 57] tyOK (st1 := mk 77 [(0, pV 0), (2, pV 2), (3, pV 3), (57, bV ((r2.2 == 4)))] [(0, [.bx [.fz (lC 1 eN_u8 j4.w0_0_0), iC j4.w0_0_1, iC j4.w0_0_2]]), (2, [.bx [.sl 6 ([]), .sl 6 ([])]]), (3, [.bx [lC 6 eLock j2.w3_0_0, lC 6 eLock j4.w3_0_1]])]) (by as_aux_lemma => kernel_rfl) ?_
    obtain ⟨y5, h, ky5⟩ := bndJ_e h
    refine a_joinT (ι := Xs_l07AnyLocks_5) (fun j => mk 77 [(0, pV 0), (2, pV 2), (3, pV 3)] [(0, [.bx [.fz (lC 1 eN_u8 j.w0_0_0), iC j.w0_0_1, iC j.w0_0_2]]), (2, [.bx [.sl 6 ([]), .sl 6 ([])]]), (3, [.bx [lC 6 eLock j.w3_0_0, lC 6 eLock j.w3_0_1]])]) (fun j => y5 = j) ?_ ?_
    · refine a_cond (b := (r2.2 == 4)) (by as_aux_lemma => kernel_rfl) (fun h5 => ?_) (fun h5 => ?_)
      · replace h := cT h5 h
        refine a_seq ?_
        refine a_run [0, 2, 3] tyOK (st1 := mk 77 [(0, pV 0), (2, pV 2), (3, pV 3)] [(0, [.bx [.fz (lC 1 eN_u8 j4.w0_0_0), iC j4.w0_0_1, iC j4.w0_0_2]]), (2, [.bx [.sl 6 ([]), .sl 6 ([])]]), (3, [.bx [.sl 6 ([]), .sl 6 ([])]])]) (by as_aux_lemma => kernel_rfl) ?_
        refine a_seq ?_
        refine a_runM tyOK (l1 := [(0, pV 0), (2, pV 2), (3, pV 3), (5, iV 0)]) (by as_aux_lemma => kernel_rfl) ?_
        obtain ⟨y6, h, ky6⟩ := bndJ_e h
        refine a_joinT (ι := Xs_l07AnyLocks_6) (fun j => mk 77 [(0, pV 0), (2, pV 2), (3, pV 3)] [(0, [.bx [.fz (lC 1 eN_u8 j.w0_0_0), iC j.w0_0_1, iC j.w0_0_2]]), (2, [.bx [.sl 6 ([]), .sl 6 ([])]]), (3, [.bx [lC 6 eLock j.w3_0_0, .sl 6 ([])]])]) (fun j => y6 = j) ?_ ?_
        · refine a_block ?_
          refine a_loopT (Bs_l07AnyLocks_1) (fun s1 => mk 77 [(0, pV 0), (2, pV 2), (3, pV 3), (5, iV s1.v5)] [(0, [.bx [.fz (lC 1 eN_u8 s1.w0_0_0), iC s1.w0_0_1, iC s1.w0_0_2]]), (2, [.bx [.sl 6 ([]), .sl 6 ([])]]), (3, [.bx [lC 6 eLock s1.w3_0_0, .sl 6 ([])]])]) ((⟨0, j4.w0_0_0, j4.w0_0_1, j4.w0_0_2, ([] : List Lock)⟩ : Ss_l07AnyLocks_1)) h ?_ ?_
          · exact imp_keepTo [0, 2, 3, 5] (by as_aux_lemma => kernel_rfl) (imp_done rfl)
          intro s1 y7 h zy7
          unfold Bs_l07AnyLocks_1 at h
          refine a_seq ?_
          refine a_seq ?_
          refine a_ops [0, 1, 2, 3, 4] (by as_aux_lemma => kernel_rfl) ?_
          refine ao_some [0, 1] [2, 3, 4] [0, 2, 3, 5, 59, 60] tyOK (st1 := mk 77 [(0, pV 0), (2, pV 2), (3, pV 3), (5, iV s1.v5), (59, iV s1.v5), (60, pV 0)] [(0, [.bx [.fz (lC 1 eN_u8 s1.w0_0_0), iC s1.w0_0_1, iC s1.w0_0_2]]), (2, [.bx [.sl 6 ([]), .sl 6 ([])]]), (3, [.bx [lC 6 eLock s1.w3_0_0, .sl 6 ([])]])]) (by as_aux_lemma => kernel_rfl) ?_
          obtain ⟨r7, er7, h⟩ := bnd_e h
          refine ao_g2 (g := 55) (d := 61) (A := [pV 0, iV 3]) (A' := [pV 0, iV 3]) (cs := [.bx [.fz (lC 1 eN_u8 s1.w0_0_0), iC s1.w0_0_1, iC s1.w0_0_2]]) (outs := [.bx [.fz (lC 1 eN_u8 r7.1.b), iC r7.1.i, iC r7.1.h]]) (ps := [[(0, 0)]]) (st1 := mk 77 [(0, pV 0), (2, pV 2), (3, pV 3), (5, iV s1.v5), (59, iV s1.v5), (61, iV r7.2)] [(0, [.bx [.fz (lC 1 eN_u8 r7.1.b), iC r7.1.i, iC r7.1.h]]), (2, [.bx [.sl 6 ([]), .sl 6 ([])]]), (3, [.bx [lC 6 eLock s1.w3_0_0, .sl 6 ([])]])]) [0, 2, 3, 5, 59, 61] (k_s_l01Below ((⟨s1.w0_0_0, s1.w0_0_1, s1.w0_0_2⟩ : L01Cur)) 3 r7 er7) Try.call55 (by as_aux_lemma => kernel_rfl) (.cons (.one (.pl 0 rfl rfl)) (.cons (.one (.same rfl)) .nil)) (handedN_of (szs := [0]) (by as_aux_lemma => kernel_rfl)) (by as_aux_lemma => kernel_rfl) (.bx .nil) (wholeFIO _ _ _ _) (by as_aux_lemma => kernel_rfl) (by as_aux_lemma => kernel_rfl) ?_
          refine ao_someM [3, 4] [] tyOK (l1 := [(0, pV 0), (2, pV 2), (3, pV 3), (5, iV s1.v5), (63, bV (decide (s1.v5 < (IntKind.wrap .i64 (59 + r7.2)))))]) (by as_aux_lemma => kernel_rfl) ?_
          refine ao_nil ?_
          refine a_cond (b := decide (s1.v5 < (IntKind.wrap .i64 (59 + r7.2)))) (by as_aux_lemma => kernel_rfl) (fun h6 => ?_) (fun h6 => ?_)
          · replace h := cT h6 h
            refine a_skip ?_
            refine a_seq ?_
            refine a_block ?_
            obtain ⟨r8, er8, h⟩ := bnd_e h
            obtain ⟨r9, er9, h⟩ := bnd_e h
            obtain ⟨c3, h⟩ := chk_e h
            refine a_mid (mk 77 [(0, pV 0), (2, pV 2), (3, pV 3), (5, iV s1.v5)] [(0, [.bx [.fz (lC 1 eN_u8 r9.1.b), iC r9.1.i, iC r9.1.h]]), (2, [.bx [.sl 6 ([]), .sl 6 ([])]]), (3, [.bx [lC 6 eLock (s1.w3_0_0 ++ ([(⟨r8.2, r9.2, false⟩ : Lock)] : List Lock)), .sl 6 ([])]])]) ?_ ?_
            · refine a_drawn (n := 11) [3, 5, 8, 10] (by as_aux_lemma => kernel_rfl) (by as_aux_lemma => kernel_rfl) ?_
              refine aa_with (fun K to of => ?_)
              have k3 : K 4 #[true, true, true, true, true, true, true, false, false, false, false] (mk 77 [(0, pV 0), (2, pV 2), (3, pV 3), (5, iV s1.v5), (67, .one (.so [(3, 0)] 0 0 (((s1.w3_0_0).map eLock).length))), (72, .agg [.c (iC r8.2.c), .c (iC r8.2.e), .c (iC r8.2.n), .c (sC r9.2.lo), .c (sC r9.2.hi), .c (bC false)])] [(0, [.bx [.fz (lC 1 eN_u8 r9.1.b), iC r9.1.i, iC r9.1.h]]), (2, [.bx [.sl 6 ([]), .sl 6 ([])]]), (3, [.bx [lC 6 eLock s1.w3_0_0, .sl 6 ([])]])]) := of (by
                refine aa_all [7] (by as_aux_lemma => kernel_rfl) rfl ?_
                refine aa_cons ?_ aa_nil
                refine aone_any (listed' := #[true, true, true, true, true, true, true, true, false, false, false]) (st1 := mk 77 [(0, pV 0), (2, pV 2), (3, pV 3), (5, iV s1.v5), (67, .one (.so [(3, 0)] 0 0 (((s1.w3_0_0).map eLock).length))), (73, .one (.so [] 73 0 1))] [(0, [.bx [.fz (lC 1 eN_u8 r9.1.b), iC r9.1.i, iC r9.1.h]]), (2, [.bx [.sl 6 ([]), .sl 6 ([])]]), (3, [.bx [lC 6 eLock s1.w3_0_0, .sl 6 ([])]]), (73, [.sl 6 ([[iC r8.2.c, iC r8.2.e, iC r8.2.n, sC r9.2.lo, sC r9.2.hi, bC false]])])]) [0, 2, 3, 5, 67, 73] tyOK (by as_aux_lemma => kernel_rfl) (by as_aux_lemma => kernel_rfl) ?_
                refine aa_all [8] (by as_aux_lemma => kernel_rfl) rfl ?_
                refine aa_cons ?_ aa_nil
                refine aone_append (listed' := #[true, true, true, true, true, true, true, true, true, false, false]) (d := 74) (n := (((s1.w3_0_0).map eLock).length)) (n' := ((s1.w3_0_0 ++ ([(⟨r8.2, r9.2, false⟩ : Lock)] : List Lock)).length)) (bytes := 64) (size := 6) (src := (some ([(3, 0)], 0, 0))) (rows := (s1.w3_0_0).map eLock) (tx := .one (.so [] 73 0 1)) (new := [[iC r8.2.c, iC r8.2.e, iC r8.2.n, sC r9.2.lo, sC r9.2.hi, bC false]]) (rows' := (s1.w3_0_0 ++ ([(⟨r8.2, r9.2, false⟩ : Lock)] : List Lock)).map eLock) (st1 := mk 77 [(0, pV 0), (2, pV 2), (3, pV 3), (5, iV s1.v5), (74, .one (.so [] 74 0 ((s1.w3_0_0 ++ ([(⟨r8.2, r9.2, false⟩ : Lock)] : List Lock)).length)))] [(0, [.bx [.fz (lC 1 eN_u8 r9.1.b), iC r9.1.i, iC r9.1.h]]), (2, [.bx [.sl 6 ([]), .sl 6 ([])]]), (3, [.bx [.dead, .sl 6 ([])]]), (74, [lC 6 eLock (s1.w3_0_0 ++ ([(⟨r8.2, r9.2, false⟩ : Lock)] : List Lock))])]) [0, 2, 3, 5, 74] tyOK (by as_aux_lemma => kernel_rfl) (by as_aux_lemma => kernel_rfl) (by simp) (by simpa using c3) (by as_aux_lemma => kernel_rfl) (by simp [bC, eLock, eRange, eTx, frzC, iC, sC]) (by simp) (by as_aux_lemma => kernel_rfl) (by as_aux_lemma => kernel_rfl) (by as_aux_lemma => kernel_rfl) ?_
                refine aa_takeM (fuel := 1) (listed' := #[true, true, true, true, true, true, true, true, true, true, false]) (l1 := [(0, pV 0), (2, pV 2), (3, pV 3), (5, iV s1.v5), (74, .one (.so [] 74 0 ((s1.w3_0_0 ++ ([(⟨r8.2, r9.2, false⟩ : Lock)] : List Lock)).length))), (75, pV 3)]) [9] tyOK (by as_aux_lemma => kernel_rfl) (by as_aux_lemma => kernel_rfl) (by as_aux_lemma => kernel_rfl) ?_
                refine aa_all [10] (by as_aux_lemma => kernel_rfl) rfl ?_
                refine aa_cons ?_ aa_nil
                refine aone_o (ob := [(((s1.w3_0_0 ++ ([(⟨r8.2, r9.2, false⟩ : Lock)] : List Lock)).map eLock).length, (s1.w3_0_0 ++ ([(⟨r8.2, r9.2, false⟩ : Lock)] : List Lock)).length)]) (listed' := #[true, true, true, true, true, true, true, true, true, true, true]) (st1 := mk 77 [(0, pV 0), (2, pV 2), (3, pV 3), (5, iV s1.v5)] [(0, [.bx [.fz (lC 1 eN_u8 r9.1.b), iC r9.1.i, iC r9.1.h]]), (2, [.bx [.sl 6 ([]), .sl 6 ([])]]), (3, [.bx [lC 6 eLock (s1.w3_0_0 ++ ([(⟨r8.2, r9.2, false⟩ : Lock)] : List Lock)), .sl 6 ([])]])]) [0, 2, 3, 5] tyOK (by as_aux_lemma => kernel_rfl) ⟨by simp, trivial⟩ (by as_aux_lemma => kernel_rfl) (by as_aux_lemma => kernel_rfl) ?_
                refine aa_done (by as_aux_lemma => kernel_rfl) ?_
                show _ = _; kernel_rfl)
              have k4 : K 6 #[true, true, true, true, true, false, false, false, false, false, false] (mk 77 [(0, pV 0), (2, pV 2), (3, pV 3), (5, iV s1.v5), (67, .one (.so [(3, 0)] 0 0 (((s1.w3_0_0).map eLock).length))), (69, .agg [.c (iC r8.2.c), .c (iC r8.2.e), .c (iC r8.2.n)]), (70, pV 0)] [(0, [.bx [.fz (lC 1 eN_u8 r8.1.b), iC r8.1.i, iC r8.1.h]]), (2, [.bx [.sl 6 ([]), .sl 6 ([])]]), (3, [.bx [lC 6 eLock s1.w3_0_0, .sl 6 ([])]])]) := of (by
                refine aa_all [5] (by as_aux_lemma => kernel_rfl) rfl ?_
                refine aa_cons ?_ aa_nil
                refine aone_g2 (listed' := #[true, true, true, true, true, true, false, false, false, false, false]) (g := 98) (d := 71) (A := [pV 0]) (A' := [pV 0]) (cs := [.bx [.fz (lC 1 eN_u8 r8.1.b), iC r8.1.i, iC r8.1.h]]) (outs := [.bx [.fz (lC 1 eN_u8 r9.1.b), iC r9.1.i, iC r9.1.h]]) (ps := [[(0, 0)]]) (st1 := mk 77 [(0, pV 0), (2, pV 2), (3, pV 3), (5, iV s1.v5), (67, .one (.so [(3, 0)] 0 0 (((s1.w3_0_0).map eLock).length))), (69, .agg [.c (iC r8.2.c), .c (iC r8.2.e), .c (iC r8.2.n)]), (71, .agg [.c (sC r9.2.lo), .c (sC r9.2.hi)])] [(0, [.bx [.fz (lC 1 eN_u8 r9.1.b), iC r9.1.i, iC r9.1.h]]), (2, [.bx [.sl 6 ([]), .sl 6 ([])]]), (3, [.bx [lC 6 eLock s1.w3_0_0, .sl 6 ([])]])]) [0, 2, 3, 5, 67, 69, 71] (k_s_l02Range r8.1 r9 er9) Try.call98 (by as_aux_lemma => kernel_rfl) (.cons (.one (.pl 0 rfl rfl)) .nil) (handedN_of (szs := [0]) (by as_aux_lemma => kernel_rfl)) (by as_aux_lemma => kernel_rfl) (.bx .nil) (wholeFIO _ _ _ _) (by as_aux_lemma => kernel_rfl) (by as_aux_lemma => kernel_rfl) (by as_aux_lemma => kernel_rfl) (by as_aux_lemma => kernel_rfl) ?_
                refine aa_all [6] (by as_aux_lemma => kernel_rfl) rfl ?_
                refine aa_cons ?_ aa_nil
                refine aone_anyM (listed' := #[true, true, true, true, true, true, true, false, false, false, false]) (l1 := [(0, pV 0), (2, pV 2), (3, pV 3), (5, iV s1.v5), (67, .one (.so [(3, 0)] 0 0 (((s1.w3_0_0).map eLock).length))), (72, .agg [.c (iC r8.2.c), .c (iC r8.2.e), .c (iC r8.2.n), .c (sC r9.2.lo), .c (sC r9.2.hi), .c (bC false)])]) tyOK (by as_aux_lemma => kernel_rfl) (by as_aux_lemma => kernel_rfl) ?_
                exact to k3)
              refine aa_takeP (fuel := 9) (listed' := #[true, false, false, false, true, false, false, false, false, false, false]) (st' := mk 77 [(0, pV 0), (2, pV 2), (3, pV 3), (5, iV s1.v5), (66, pV 3), (70, pV 0)] [(0, [.bx [.fz (lC 1 eN_u8 r7.1.b), iC r7.1.i, iC r7.1.h]]), (2, [.bx [.sl 6 ([]), .sl 6 ([])]]), (3, [.bx [lC 6 eLock s1.w3_0_0, .sl 6 ([])]])]) [0, 4] [0, 2, 3, 5, 66, 70] tyOK (by as_aux_lemma => kernel_rfl) (by as_aux_lemma => kernel_rfl) (by as_aux_lemma => kernel_rfl) ?_
              refine aa_takeM (fuel := 8) (listed' := #[true, false, true, false, true, false, false, false, false, false, false]) (l1 := [(0, pV 0), (2, pV 2), (3, pV 3), (5, iV s1.v5), (66, pV 3), (68, pV 0), (70, pV 0)]) [2] tyOK (by as_aux_lemma => kernel_rfl) (by as_aux_lemma => kernel_rfl) (by as_aux_lemma => kernel_rfl) ?_
              refine aa_all [1, 3] (by as_aux_lemma => kernel_rfl) rfl ?_
              refine aa_cons ?_ ?_
              · refine aone_anyM (listed' := #[true, true, true, false, true, false, false, false, false, false, false]) (l1 := [(0, pV 0), (2, pV 2), (3, pV 3), (5, iV s1.v5), (67, .one (.so [(3, 0)] 0 0 (((s1.w3_0_0).map eLock).length))), (68, pV 0), (70, pV 0)]) tyOK (by as_aux_lemma => kernel_rfl) (by as_aux_lemma => kernel_rfl) ?_
                refine aa_all [3] (by as_aux_lemma => kernel_rfl) rfl ?_
                refine aa_cons ?_ aa_nil
                refine aone_g2 (listed' := #[true, true, true, true, true, false, false, false, false, false, false]) (g := 97) (d := 69) (A := [pV 0]) (A' := [pV 0]) (cs := [.bx [.fz (lC 1 eN_u8 r7.1.b), iC r7.1.i, iC r7.1.h]]) (outs := [.bx [.fz (lC 1 eN_u8 r8.1.b), iC r8.1.i, iC r8.1.h]]) (ps := [[(0, 0)]]) (st1 := mk 77 [(0, pV 0), (2, pV 2), (3, pV 3), (5, iV s1.v5), (67, .one (.so [(3, 0)] 0 0 (((s1.w3_0_0).map eLock).length))), (69, .agg [.c (iC r8.2.c), .c (iC r8.2.e), .c (iC r8.2.n)]), (70, pV 0)] [(0, [.bx [.fz (lC 1 eN_u8 r8.1.b), iC r8.1.i, iC r8.1.h]]), (2, [.bx [.sl 6 ([]), .sl 6 ([])]]), (3, [.bx [lC 6 eLock s1.w3_0_0, .sl 6 ([])]])]) [0, 2, 3, 5, 67, 69, 70] (k_s_l07Tx r7.1 r8 er8) Try.call97 (by as_aux_lemma => kernel_rfl) (.cons (.one (.pl 0 rfl rfl)) .nil) (handedN_of (szs := [0]) (by as_aux_lemma => kernel_rfl)) (by as_aux_lemma => kernel_rfl) (.bx .nil) (wholeFIO _ _ _ _) (by as_aux_lemma => kernel_rfl) (by as_aux_lemma => kernel_rfl) (by as_aux_lemma => kernel_rfl) (by as_aux_lemma => kernel_rfl) ?_
                exact to k4
              refine aa_cons ?_ aa_nil
              refine aone_g2 (listed' := #[true, false, true, true, true, false, false, false, false, false, false]) (g := 97) (d := 69) (A := [pV 0]) (A' := [pV 0]) (cs := [.bx [.fz (lC 1 eN_u8 r7.1.b), iC r7.1.i, iC r7.1.h]]) (outs := [.bx [.fz (lC 1 eN_u8 r8.1.b), iC r8.1.i, iC r8.1.h]]) (ps := [[(0, 0)]]) (st1 := mk 77 [(0, pV 0), (2, pV 2), (3, pV 3), (5, iV s1.v5), (66, pV 3), (69, .agg [.c (iC r8.2.c), .c (iC r8.2.e), .c (iC r8.2.n)]), (70, pV 0)] [(0, [.bx [.fz (lC 1 eN_u8 r8.1.b), iC r8.1.i, iC r8.1.h]]), (2, [.bx [.sl 6 ([]), .sl 6 ([])]]), (3, [.bx [lC 6 eLock s1.w3_0_0, .sl 6 ([])]])]) [0, 2, 3, 5, 66, 69, 70] (k_s_l07Tx r7.1 r8 er8) Try.call97 (by as_aux_lemma => kernel_rfl) (.cons (.one (.pl 0 rfl rfl)) .nil) (handedN_of (szs := [0]) (by as_aux_lemma => kernel_rfl)) (by as_aux_lemma => kernel_rfl) (.bx .nil) (wholeFIO _ _ _ _) (by as_aux_lemma => kernel_rfl) (by as_aux_lemma => kernel_rfl) (by as_aux_lemma => kernel_rfl) (by as_aux_lemma => kernel_rfl) ?_
              refine aa_all [1, 5] (by as_aux_lemma => kernel_rfl) rfl ?_
              refine aa_cons ?_ ?_
              · refine aone_anyM (listed' := #[true, true, true, true, true, false, false, false, false, false, false]) (l1 := [(0, pV 0), (2, pV 2), (3, pV 3), (5, iV s1.v5), (67, .one (.so [(3, 0)] 0 0 (((s1.w3_0_0).map eLock).length))), (69, .agg [.c (iC r8.2.c), .c (iC r8.2.e), .c (iC r8.2.n)]), (70, pV 0)]) tyOK (by as_aux_lemma => kernel_rfl) (by as_aux_lemma => kernel_rfl) ?_
                exact to k4
              refine aa_cons ?_ aa_nil
              refine aone_g2 (listed' := #[true, false, true, true, true, true, false, false, false, false, false]) (g := 98) (d := 71) (A := [pV 0]) (A' := [pV 0]) (cs := [.bx [.fz (lC 1 eN_u8 r8.1.b), iC r8.1.i, iC r8.1.h]]) (outs := [.bx [.fz (lC 1 eN_u8 r9.1.b), iC r9.1.i, iC r9.1.h]]) (ps := [[(0, 0)]]) (st1 := mk 77 [(0, pV 0), (2, pV 2), (3, pV 3), (5, iV s1.v5), (66, pV 3), (69, .agg [.c (iC r8.2.c), .c (iC r8.2.e), .c (iC r8.2.n)]), (71, .agg [.c (sC r9.2.lo), .c (sC r9.2.hi)])] [(0, [.bx [.fz (lC 1 eN_u8 r9.1.b), iC r9.1.i, iC r9.1.h]]), (2, [.bx [.sl 6 ([]), .sl 6 ([])]]), (3, [.bx [lC 6 eLock s1.w3_0_0, .sl 6 ([])]])]) [0, 2, 3, 5, 66, 69, 71] (k_s_l02Range r8.1 r9 er9) Try.call98 (by as_aux_lemma => kernel_rfl) (.cons (.one (.pl 0 rfl rfl)) .nil) (handedN_of (szs := [0]) (by as_aux_lemma => kernel_rfl)) (by as_aux_lemma => kernel_rfl) (.bx .nil) (wholeFIO _ _ _ _) (by as_aux_lemma => kernel_rfl) (by as_aux_lemma => kernel_rfl) (by as_aux_lemma => kernel_rfl) (by as_aux_lemma => kernel_rfl) ?_
              refine aa_takeM (fuel := 5) (listed' := #[true, true, true, true, true, true, false, false, false, false, false]) (l1 := [(0, pV 0), (2, pV 2), (3, pV 3), (5, iV s1.v5), (67, .one (.so [(3, 0)] 0 0 (((s1.w3_0_0).map eLock).length))), (69, .agg [.c (iC r8.2.c), .c (iC r8.2.e), .c (iC r8.2.n)]), (71, .agg [.c (sC r9.2.lo), .c (sC r9.2.hi)])]) [1] tyOK (by as_aux_lemma => kernel_rfl) (by as_aux_lemma => kernel_rfl) (by as_aux_lemma => kernel_rfl) ?_
              refine aa_all [6] (by as_aux_lemma => kernel_rfl) rfl ?_
              refine aa_cons ?_ aa_nil
              refine aone_anyM (listed' := #[true, true, true, true, true, true, true, false, false, false, false]) (l1 := [(0, pV 0), (2, pV 2), (3, pV 3), (5, iV s1.v5), (67, .one (.so [(3, 0)] 0 0 (((s1.w3_0_0).map eLock).length))), (72, .agg [.c (iC r8.2.c), .c (iC r8.2.e), .c (iC r8.2.n), .c (sC r9.2.lo), .c (sC r9.2.hi), .c (bC false)])]) tyOK (by as_aux_lemma => kernel_rfl) (by as_aux_lemma => kernel_rfl) ?_
              exact to k3
            refine a_runM tyOK (l1 := [(0, pV 0), (2, pV 2), (3, pV 3), (5, iV (IntKind.wrap .i64 (s1.v5 + 1)))]) (by as_aux_lemma => kernel_rfl) ?_
            obtain rfl := Option.some.inj h
            show ∃ _, _ ∧ Imp _ _ _
            refine ⟨_, rfl, ?_⟩
            exact imp_keepTo [0, 2, 3, 5] (by as_aux_lemma => kernel_rfl) (imp_done rfl)
          · replace h := cF h6 h
            refine a_exit ?_
            obtain rfl := Option.some.inj h
            obtain rfl := zy7 _ rfl
            show ∃ _, _ ∧ Imp _ _ _
            refine ⟨_, rfl, ?_⟩
            exact imp_keepTo [0, 2, 3] (by as_aux_lemma => kernel_rfl) (imp_done rfl)
        intro j5 hj5
        replace h := ky6 _ hj5
        obtain rfl := Option.some.inj h
        show ∃ _, _ ∧ Imp _ _ _
        refine ⟨_, rfl, ?_⟩
        exact imp_keepTo [0, 2, 3] (by as_aux_lemma => kernel_rfl) (imp_done rfl)
      · replace h := cF h5 h
        refine a_skip ?_
        obtain rfl := Option.some.inj h
        show ∃ _, _ ∧ Imp _ _ _
        refine ⟨_, rfl, ?_⟩
        exact imp_keepTo [0, 2, 3] (by as_aux_lemma => kernel_rfl) (imp_done rfl)
    intro j6 hj6
    replace h := ky5 _ hj6
    refine a_seq ?_
    refine a_ops [0, 1] (by as_aux_lemma => kernel_rfl) ?_
    refine ao_some [0] [1] [0, 2, 76] tyOK (st1 := mk 77 [(0, pV 0), (2, pV 2), (76, .agg [.so [(3, 0)] 0 0 (((j6.w3_0_0).map eLock).length), .so [(3, 0)] 0 1 (((j6.w3_0_1).map eLock).length)])] [(0, [.bx [.fz (lC 1 eN_u8 j6.w0_0_0), iC j6.w0_0_1, iC j6.w0_0_2]]), (2, [.bx [.sl 6 ([]), .sl 6 ([])]]), (3, [.bx [lC 6 eLock j6.w3_0_0, lC 6 eLock j6.w3_0_1]])]) (by as_aux_lemma => kernel_rfl) ?_
    refine ao_o (ob := [(((j6.w3_0_0).map eLock).length, ((j6.w3_0_0).map eLock).length), (((j6.w3_0_1).map eLock).length, ((j6.w3_0_1).map eLock).length)]) (st1 := mk 77 [(0, pV 0), (2, pV 2)] [(0, [.bx [.fz (lC 1 eN_u8 j6.w0_0_0), iC j6.w0_0_1, iC j6.w0_0_2]]), (2, [.bx [lC 6 eLock j6.w3_0_0, lC 6 eLock j6.w3_0_1]])]) [0, 2] tyOK (by as_aux_lemma => kernel_rfl) ⟨by simp, by simp, trivial⟩ ?_
    refine ao_nil ?_
    refine a_ret ?_
    obtain rfl := Option.some.inj h
    exact end_g (ob := [(((j6.w3_0_0).map eLock).length, ((j6.w3_0_0).map eLock).length), (((j6.w3_0_1).map eLock).length, ((j6.w3_0_1).map eLock).length)]) (outs' := [.bx [.fz (lC 1 eN_u8 j6.w0_0_0), iC j6.w0_0_1, iC j6.w0_0_2]]) (res' := .agg [.so [] 0 0 (((j6.w3_0_0).map eLock).length), .so [] 0 1 (((j6.w3_0_1).map eLock).length)]) (row' := [lC 6 eLock j6.w3_0_0, lC 6 eLock j6.w3_0_1]) (by as_aux_lemma => kernel_rfl) ⟨by simp, by simp, trivial⟩ (by first | rfl | simp) (by first | rfl | simp) (by first | rfl | simp)


end Go.Proofs.Ytagoajkiccgmjaa
namespace Go.Proofs.Ytagoajkiccgmjaa
open Go.Mv Go.RowKit
structure Xs_DrawLockAsk_1 where
  w6_0_0 : Int
  w6_0_1 : Int
  w6_0_2 : Int
  w6_0_3 : ByteArray
  w6_0_4 : ByteArray
  w6_0_5 : Bool

noncomputable def s_DrawLockAsk (p0 : (List Int)) : Option (Locks × Lock) :=
 bnd (s_l01New p0) fun r1 =>
 bnd (s_l07AnyLocks r1) fun r2 =>
 bnd (s_l07Lock r2.1) fun r3 =>
 bnd (s_l01Below r3.1 8) fun r4 =>
 bnd (bif ((r4.2 == 0)) then
 (bnd (s_l07AnyTx r4.1) fun r5 =>
 bnd (s_l02AnyRange r5.1) fun r6 =>
 some ((⟨r5.2.c, r5.2.e, r5.2.n, r6.2.lo, r6.2.hi, true⟩ : Xs_DrawLockAsk_1)))
 else
 (some ((⟨r3.2.tx.c, r3.2.tx.e, r3.2.tx.n, r3.2.range.lo, r3.2.range.hi, r3.2.ex⟩ : Xs_DrawLockAsk_1)))) fun j1 =>
 some ((r2.2, (⟨(⟨j1.w6_0_0, j1.w6_0_1, j1.w6_0_2⟩ : Tx), (⟨j1.w6_0_3, j1.w6_0_4⟩ : Range), j1.w6_0_5⟩ : Lock)))
set_option maxHeartbeats 4000000 in
/-- spec.DrawLockAsk -/
theorem k_s_DrawLockAsk (p0 : (List Int)) (v : Locks × Lock) (h : s_DrawLockAsk p0 = some v) : CallOK Try.prog 17 [lV 1 eN_u8 p0] (.tup [.agg [.so [] 0 0 ((v.1.held).length), .so [] 0 1 ((v.1.wait).length)], .agg [.c (iC v.2.tx.c), .c (iC v.2.tx.e), .c (iC v.2.tx.n), .c (sC v.2.range.lo), .c (sC v.2.range.hi), .c (bC v.2.ex)]]) [lC 6 eLock v.1.held, lC 6 eLock v.1.wait] :=
  callOK tyOK Try.func17 rfl fun w S hS => by
    unfold s_DrawLockAsk at h
    refine a_seq ?_
    refine a_run [0, 2, 3] tyOK (st1 := mk 23 [(0, lV 1 eN_u8 p0), (2, pV 2), (3, pV 3)] [(2, [.bx [.sl 6 ([]), .sl 6 ([])]]), (3, [.bx [iC 0, iC 0, iC 0, sC ((⟨#[]⟩ : ByteArray)), sC ((⟨#[]⟩ : ByteArray)), bC false]])]) (by kernel_rfl) ?_
    refine a_seq ?_
    refine a_ops [0, 1, 2] (by kernel_rfl) ?_
    refine ao_someM [0] [1, 2] tyOK (l1 := [(2, pV 2), (3, pV 3), (7, lV 1 eN_u8 p0)]) (by kernel_rfl) ?_
    obtain ⟨r1, er1, h⟩ := bnd_e h
    refine ao_enter (f := 52) (d := 8) (A := [lV 1 eN_u8 p0]) (st1 := mk 23 [(2, pV 2), (3, pV 3), (8, pV 8)] [(2, [.bx [.sl 6 ([]), .sl 6 ([])]]), (3, [.bx [iC 0, iC 0, iC 0, sC ((⟨#[]⟩ : ByteArray)), sC ((⟨#[]⟩ : ByteArray)), bC false]]), (8, [.bx [.fz (lC 1 eN_u8 r1.b), iC r1.i, iC r1.h]])]) [2, 3, 8] (k_s_l01New p0 r1 er1) Try.call52 (by kernel_rfl) (by kernel_rfl) (by kernel_rfl) ?_
    refine ao_someM [2] [] tyOK (l1 := [(2, pV 2), (3, pV 3), (4, pV 8)]) (by kernel_rfl) ?_
    refine ao_nil ?_
    refine a_seq ?_
    refine a_ops [0, 1, 2, 3] (by kernel_rfl) ?_
    refine ao_someM [0] [1, 2, 3] tyOK (l1 := [(2, pV 2), (3, pV 3), (4, pV 8), (9, pV 8)]) (by kernel_rfl) ?_
    obtain ⟨r2, er2, h⟩ := bnd_e h
    refine ao_g2 (g := 53) (d := 10) (A := [pV 8]) (A' := [pV 0]) (cs := [.bx [.fz (lC 1 eN_u8 r1.b), iC r1.i, iC r1.h]]) (outs := [.bx [.fz (lC 1 eN_u8 r2.1.b), iC r2.1.i, iC r2.1.h]]) (ps := [[(8, 0)]]) (st1 := mk 23 [(2, pV 2), (3, pV 3), (4, pV 8), (10, .agg [.so [] 10 0 ((r2.2.held).length), .so [] 10 1 ((r2.2.wait).length)])] [(2, [.bx [.sl 6 ([]), .sl 6 ([])]]), (3, [.bx [iC 0, iC 0, iC 0, sC ((⟨#[]⟩ : ByteArray)), sC ((⟨#[]⟩ : ByteArray)), bC false]]), (8, [.bx [.fz (lC 1 eN_u8 r2.1.b), iC r2.1.i, iC r2.1.h]]), (10, [lC 6 eLock r2.2.held, lC 6 eLock r2.2.wait])]) [2, 3, 4, 10] (k_s_l07AnyLocks r1 r2 er2) Try.call53 (by kernel_rfl) (.cons (.one (.pl 0 rfl rfl)) .nil) (handedN_of (szs := [0]) (by kernel_rfl)) (by kernel_rfl) (.bx .nil) (wholeF0 _ _) (by kernel_rfl) (by kernel_rfl) ?_
    refine ao_some [2] [3] [2, 3, 4, 5, 10] tyOK (st1 := mk 23 [(2, pV 2), (3, pV 3), (4, pV 8), (5, pV 5), (10, .agg [.so [] 10 0 ((r2.2.held).length), .so [] 10 1 ((r2.2.wait).length)])] [(2, [.bx [.sl 6 ([]), .sl 6 ([])]]), (3, [.bx [iC 0, iC 0, iC 0, sC ((⟨#[]⟩ : ByteArray)), sC ((⟨#[]⟩ : ByteArray)), bC false]]), (5, [.bx [.sl 6 ([]), .sl 6 ([])]]), (8, [.bx [.fz (lC 1 eN_u8 r2.1.b), iC r2.1.i, iC r2.1.h]]), (10, [lC 6 eLock r2.2.held, lC 6 eLock r2.2.wait])]) (by kernel_rfl) ?_
    refine ao_o (ob := [(((r2.2.held).map eLock).length, (r2.2.held).length), (((r2.2.wait).map eLock).length, (r2.2.wait).length)]) (st1 := mk 23 [(2, pV 2), (3, pV 3), (4, pV 8), (5, pV 5)] [(2, [.bx [.sl 6 ([]), .sl 6 ([])]]), (3, [.bx [iC 0, iC 0, iC 0, sC ((⟨#[]⟩ : ByteArray)), sC ((⟨#[]⟩ : ByteArray)), bC false]]), (5, [.bx [lC 6 eLock r2.2.held, lC 6 eLock r2.2.wait]]), (8, [.bx [.fz (lC 1 eN_u8 r2.1.b), iC r2.1.i, iC r2.1.h]])]) [2, 3, 4, 5] tyOK (by kernel_rfl) ⟨by simp, by simp, trivial⟩ ?_
    refine ao_nil ?_
    refine a_seq ?_
    refine a_ops [0, 1, 2, 3] (by kernel_rfl) ?_
    refine ao_someM [0] [1, 2, 3] tyOK (l1 := [(2, pV 2), (3, pV 3), (4, pV 8), (5, pV 5), (11, pV 8)]) (by kernel_rfl) ?_
    obtain ⟨r3, er3, h⟩ := bnd_e h
    refine ao_g2 (g := 54) (d := 12) (A := [pV 8]) (A' := [pV 0]) (cs := [.bx [.fz (lC 1 eN_u8 r2.1.b), iC r2.1.i, iC r2.1.h]]) (outs := [.bx [.fz (lC 1 eN_u8 r3.1.b), iC r3.1.i, iC r3.1.h]]) (ps := [[(8, 0)]]) (st1 := mk 23 [(2, pV 2), (3, pV 3), (4, pV 8), (5, pV 5), (12, .agg [.c (iC r3.2.tx.c), .c (iC r3.2.tx.e), .c (iC r3.2.tx.n), .c (sC r3.2.range.lo), .c (sC r3.2.range.hi), .c (bC r3.2.ex)])] [(2, [.bx [.sl 6 ([]), .sl 6 ([])]]), (3, [.bx [iC 0, iC 0, iC 0, sC ((⟨#[]⟩ : ByteArray)), sC ((⟨#[]⟩ : ByteArray)), bC false]]), (5, [.bx [lC 6 eLock r2.2.held, lC 6 eLock r2.2.wait]]), (8, [.bx [.fz (lC 1 eN_u8 r3.1.b), iC r3.1.i, iC r3.1.h]])]) [2, 3, 4, 5, 12] (k_s_l07Lock r2.1 r3 er3) Try.call54 (by kernel_rfl) (.cons (.one (.pl 0 rfl rfl)) .nil) (handedN_of (szs := [0]) (by kernel_rfl)) (by kernel_rfl) (.bx .nil) (wholeF0 _ _) (by kernel_rfl) (by kernel_rfl) ?_
    refine ao_some [2, 3] [] [2, 3, 4, 5, 6] tyOK (st1 := mk 23 [(2, pV 2), (3, pV 3), (4, pV 8), (5, pV 5), (6, pV 6)] [(2, [.bx [.sl 6 ([]), .sl 6 ([])]]), (3, [.bx [iC 0, iC 0, iC 0, sC ((⟨#[]⟩ : ByteArray)), sC ((⟨#[]⟩ : ByteArray)), bC false]]), (5, [.bx [lC 6 eLock r2.2.held, lC 6 eLock r2.2.wait]]), (6, [.bx [iC r3.2.tx.c, iC r3.2.tx.e, iC r3.2.tx.n, sC r3.2.range.lo, sC r3.2.range.hi, bC r3.2.ex]]), (8, [.bx [.fz (lC 1 eN_u8 r3.1.b), iC r3.1.i, iC r3.1.h]])]) (by kernel_rfl) ?_
    refine ao_nil ?_
    refine a_seq ?_
    refine a_seq ?_
    refine a_ops [0, 1, 2] (by kernel_rfl) ?_
    refine ao_someM [0] [1, 2] tyOK (l1 := [(2, pV 2), (3, pV 3), (4, pV 8), (5, pV 5), (6, pV 6), (13, pV 8)]) (by kernel_rfl) ?_
    obtain ⟨r4, er4, h⟩ := bnd_e h
    refine ao_g2 (g := 55) (d := 14) (A := [pV 8, iV 8]) (A' := [pV 0, iV 8]) (cs := [.bx [.fz (lC 1 eN_u8 r3.1.b), iC r3.1.i, iC r3.1.h]]) (outs := [.bx [.fz (lC 1 eN_u8 r4.1.b), iC r4.1.i, iC r4.1.h]]) (ps := [[(8, 0)]]) (st1 := mk 23 [(2, pV 2), (3, pV 3), (4, pV 8), (5, pV 5), (6, pV 6), (14, iV r4.2)] [(2, [.bx [.sl 6 ([]), .sl 6 ([])]]), (3, [.bx [iC 0, iC 0, iC 0, sC ((⟨#[]⟩ : ByteArray)), sC ((⟨#[]⟩ : ByteArray)), bC false]]), (5, [.bx [lC 6 eLock r2.2.held, lC 6 eLock r2.2.wait]]), (6, [.bx [iC r3.2.tx.c, iC r3.2.tx.e, iC r3.2.tx.n, sC r3.2.range.lo, sC r3.2.range.hi, bC r3.2.ex]]), (8, [.bx [.fz (lC 1 eN_u8 r4.1.b), iC r4.1.i, iC r4.1.h]])]) [2, 3, 4, 5, 6, 14] (k_s_l01Below r3.1 8 r4 er4) Try.call55 (by kernel_rfl) (.cons (.one (.pl 0 rfl rfl)) (.cons (.one (.same rfl)) .nil)) (handedN_of (szs := [0]) (by kernel_rfl)) (by kernel_rfl) (.bx .nil) (wholeF0 _ _) (by kernel_rfl) (by kernel_rfl) ?_
    refine ao_someM [2] [] tyOK (l1 := [(2, pV 2), (3, pV 3), (4, pV 8), (5, pV 5), (6, pV 6), (15, bV ((r4.2 == 0)))]) (by kernel_rfl) ?_
    refine ao_nil ?_
    obtain ⟨y1, h, ky1⟩ := bndJ_e h
    refine a_joinT (ι := Xs_DrawLockAsk_1) (fun j => mk 23 [(2, pV 2), (3, pV 3), (5, pV 5), (6, pV 6)] [(2, [.bx [.sl 6 ([]), .sl 6 ([])]]), (3, [.bx [iC 0, iC 0, iC 0, sC ((⟨#[]⟩ : ByteArray)), sC ((⟨#[]⟩ : ByteArray)), bC false]]), (5, [.bx [lC 6 eLock r2.2.held, lC 6 eLock r2.2.wait]]), (6, [.bx [iC j.w6_0_0, iC j.w6_0_1, iC j.w6_0_2, sC j.w6_0_3, sC j.w6_0_4, bC j.w6_0_5]])]) (fun j => y1 = j) ?_ ?_
    · refine a_cond (b := (r4.2 == 0)) (by kernel_rfl) (fun h1 => ?_) (fun h1 => ?_)
      · replace h := cT h1 h
        refine a_ops [0, 1, 2, 3, 4, 5] (by kernel_rfl) ?_
        refine ao_some [0] [1, 2, 3, 4, 5] [2, 3, 4, 5, 6, 16] tyOK (st1 := mk 23 [(2, pV 2), (3, pV 3), (4, pV 8), (5, pV 5), (6, pV 6), (16, pV 8)] [(2, [.bx [.sl 6 ([]), .sl 6 ([])]]), (3, [.bx [iC 0, iC 0, iC 0, sC ((⟨#[]⟩ : ByteArray)), sC ((⟨#[]⟩ : ByteArray)), bC false]]), (5, [.bx [lC 6 eLock r2.2.held, lC 6 eLock r2.2.wait]]), (6, [.bx [iC r3.2.tx.c, iC r3.2.tx.e, iC r3.2.tx.n, sC r3.2.range.lo, sC r3.2.range.hi, bC r3.2.ex]]), (8, [.bx [.fz (lC 1 eN_u8 r4.1.b), iC r4.1.i, iC r4.1.h]])]) (by kernel_rfl) ?_
        obtain ⟨r5, er5, h⟩ := bnd_e h
        refine ao_g2 (g := 56) (d := 17) (A := [pV 8]) (A' := [pV 0]) (cs := [.bx [.fz (lC 1 eN_u8 r4.1.b), iC r4.1.i, iC r4.1.h]]) (outs := [.bx [.fz (lC 1 eN_u8 r5.1.b), iC r5.1.i, iC r5.1.h]]) (ps := [[(8, 0)]]) (st1 := mk 23 [(2, pV 2), (3, pV 3), (4, pV 8), (5, pV 5), (6, pV 6), (17, .agg [.c (iC r5.2.c), .c (iC r5.2.e), .c (iC r5.2.n)])] [(2, [.bx [.sl 6 ([]), .sl 6 ([])]]), (3, [.bx [iC 0, iC 0, iC 0, sC ((⟨#[]⟩ : ByteArray)), sC ((⟨#[]⟩ : ByteArray)), bC false]]), (5, [.bx [lC 6 eLock r2.2.held, lC 6 eLock r2.2.wait]]), (6, [.bx [iC r3.2.tx.c, iC r3.2.tx.e, iC r3.2.tx.n, sC r3.2.range.lo, sC r3.2.range.hi, bC r3.2.ex]]), (8, [.bx [.fz (lC 1 eN_u8 r5.1.b), iC r5.1.i, iC r5.1.h]])]) [2, 3, 4, 5, 6, 17] (k_s_l07AnyTx r4.1 r5 er5) Try.call56 (by kernel_rfl) (.cons (.one (.pl 0 rfl rfl)) .nil) (handedN_of (szs := [0]) (by kernel_rfl)) (by kernel_rfl) (.bx .nil) (wholeF0 _ _) (by kernel_rfl) (by kernel_rfl) ?_
        refine ao_someM [2] [3, 4, 5] tyOK (l1 := [(2, pV 2), (3, pV 3), (5, pV 5), (6, pV 6), (17, .agg [.c (iC r5.2.c), .c (iC r5.2.e), .c (iC r5.2.n)]), (18, pV 8)]) (by kernel_rfl) ?_
        obtain ⟨r6, er6, h⟩ := bnd_e h
        refine ao_g2 (g := 57) (d := 19) (A := [pV 8]) (A' := [pV 0]) (cs := [.bx [.fz (lC 1 eN_u8 r5.1.b), iC r5.1.i, iC r5.1.h]]) (outs := [.bx [.fz (lC 1 eN_u8 r6.1.b), iC r6.1.i, iC r6.1.h]]) (ps := [[(8, 0)]]) (st1 := mk 23 [(2, pV 2), (3, pV 3), (5, pV 5), (6, pV 6), (17, .agg [.c (iC r5.2.c), .c (iC r5.2.e), .c (iC r5.2.n)]), (19, .agg [.c (sC r6.2.lo), .c (sC r6.2.hi)])] [(2, [.bx [.sl 6 ([]), .sl 6 ([])]]), (3, [.bx [iC 0, iC 0, iC 0, sC ((⟨#[]⟩ : ByteArray)), sC ((⟨#[]⟩ : ByteArray)), bC false]]), (5, [.bx [lC 6 eLock r2.2.held, lC 6 eLock r2.2.wait]]), (6, [.bx [iC r3.2.tx.c, iC r3.2.tx.e, iC r3.2.tx.n, sC r3.2.range.lo, sC r3.2.range.hi, bC r3.2.ex]])]) [2, 3, 5, 6, 17, 19] (k_s_l02AnyRange r5.1 r6 er6) Try.call57 (by kernel_rfl) (.cons (.one (.pl 0 rfl rfl)) .nil) (handedN_of (szs := [0]) (by kernel_rfl)) (by kernel_rfl) (.bx .nil) (wholeF0 _ _) (by kernel_rfl) (by kernel_rfl) ?_
        refine ao_some [4, 5] [] [2, 3, 5, 6] tyOK (st1 := mk 23 [(2, pV 2), (3, pV 3), (5, pV 5), (6, pV 6)] [(2, [.bx [.sl 6 ([]), .sl 6 ([])]]), (3, [.bx [iC 0, iC 0, iC 0, sC ((⟨#[]⟩ : ByteArray)), sC ((⟨#[]⟩ : ByteArray)), bC false]]), (5, [.bx [lC 6 eLock r2.2.held, lC 6 eLock r2.2.wait]]), (6, [.bx [iC r5.2.c, iC r5.2.e, iC r5.2.n, sC r6.2.lo, sC r6.2.hi, bC true]])]) (by kernel_rfl) ?_
        refine ao_nil ?_
        obtain rfl := Option.some.inj h
        show ∃ _, _ ∧ Imp _ _ _
        refine ⟨_, rfl, ?_⟩
        exact imp_keepTo [2, 3, 5, 6] (by kernel_rfl) (imp_done rfl)
      · replace h := cF h1 h
        refine a_skip ?_
        obtain rfl := Option.some.inj h
        show ∃ _, _ ∧ Imp _ _ _
        refine ⟨_, rfl, ?_⟩
        exact imp_keepTo [2, 3, 5, 6] (by kernel_rfl) (imp_done rfl)
    intro j1 hj1
    replace h := ky1 _ hj1
    refine a_seq ?_
    refine a_mid (mk 23 [(2, pV 2), (3, pV 3)] [(2, [.bx [lC 6 eLock r2.2.held, lC 6 eLock r2.2.wait]]), (3, [.bx [iC j1.w6_0_0, iC j1.w6_0_1, iC j1.w6_0_2, sC j1.w6_0_3, sC j1.w6_0_4, bC j1.w6_0_5]])]) ?_ ?_
    · refine a_drawn (n := 4) [2, 3] (by kernel_rfl) (by kernel_rfl) ?_
      refine aa_take (fuel := 3) (listed' := #[true, false, false, false]) (st' := mk 23 [(2, pV 2), (3, pV 3), (6, pV 6), (21, .agg [.so [(5, 0)] 0 0 (((r2.2.held).map eLock).length), .so [(5, 0)] 0 1 (((r2.2.wait).map eLock).length)])] [(2, [.bx [.sl 6 ([]), .sl 6 ([])]]), (3, [.bx [iC 0, iC 0, iC 0, sC ((⟨#[]⟩ : ByteArray)), sC ((⟨#[]⟩ : ByteArray)), bC false]]), (5, [.bx [lC 6 eLock r2.2.held, lC 6 eLock r2.2.wait]]), (6, [.bx [iC j1.w6_0_0, iC j1.w6_0_1, iC j1.w6_0_2, sC j1.w6_0_3, sC j1.w6_0_4, bC j1.w6_0_5]])]) [0] [2, 3, 6, 21] tyOK (by kernel_rfl) (by kernel_rfl) (by kernel_rfl) ?_
      refine aa_all [1, 2] (by kernel_rfl) rfl ?_
      refine aa_cons ?_ ?_
      · refine aone_any (listed' := #[true, true, false, false]) (st1 := mk 23 [(2, pV 2), (3, pV 3), (21, .agg [.so [(5, 0)] 0 0 (((r2.2.held).map eLock).length), .so [(5, 0)] 0 1 (((r2.2.wait).map eLock).length)]), (22, .agg [.c (iC j1.w6_0_0), .c (iC j1.w6_0_1), .c (iC j1.w6_0_2), .c (sC j1.w6_0_3), .c (sC j1.w6_0_4), .c (bC j1.w6_0_5)])] [(2, [.bx [.sl 6 ([]), .sl 6 ([])]]), (3, [.bx [iC 0, iC 0, iC 0, sC ((⟨#[]⟩ : ByteArray)), sC ((⟨#[]⟩ : ByteArray)), bC false]]), (5, [.bx [lC 6 eLock r2.2.held, lC 6 eLock r2.2.wait]])]) [2, 3, 21, 22] tyOK (by kernel_rfl) (by kernel_rfl) ?_
        refine aa_all [2] (by kernel_rfl) rfl ?_
        refine aa_cons ?_ aa_nil
        refine aone_o (ob := [(((r2.2.held).map eLock).length, ((r2.2.held).map eLock).length), (((r2.2.wait).map eLock).length, ((r2.2.wait).map eLock).length)]) (listed' := #[true, true, true, false]) (st1 := mk 23 [(2, pV 2), (3, pV 3), (22, .agg [.c (iC j1.w6_0_0), .c (iC j1.w6_0_1), .c (iC j1.w6_0_2), .c (sC j1.w6_0_3), .c (sC j1.w6_0_4), .c (bC j1.w6_0_5)])] [(2, [.bx [lC 6 eLock r2.2.held, lC 6 eLock r2.2.wait]]), (3, [.bx [iC 0, iC 0, iC 0, sC ((⟨#[]⟩ : ByteArray)), sC ((⟨#[]⟩ : ByteArray)), bC false]])]) [2, 3, 22] tyOK (by kernel_rfl) ⟨by simp, by simp, trivial⟩ (by kernel_rfl) (by kernel_rfl) ?_
        refine aa_all [3] (by kernel_rfl) rfl ?_
        refine aa_cons ?_ aa_nil
        refine aone_any (listed' := #[true, true, true, true]) (st1 := mk 23 [(2, pV 2), (3, pV 3)] [(2, [.bx [lC 6 eLock r2.2.held, lC 6 eLock r2.2.wait]]), (3, [.bx [iC j1.w6_0_0, iC j1.w6_0_1, iC j1.w6_0_2, sC j1.w6_0_3, sC j1.w6_0_4, bC j1.w6_0_5]])]) [2, 3] tyOK (by kernel_rfl) (by kernel_rfl) ?_
        refine aa_done (by kernel_rfl) ?_
        show _ = _; kernel_rfl
      refine aa_cons ?_ aa_nil
      refine aone_o (ob := [(((r2.2.held).map eLock).length, ((r2.2.held).map eLock).length), (((r2.2.wait).map eLock).length, ((r2.2.wait).map eLock).length)]) (listed' := #[true, false, true, false]) (st1 := mk 23 [(2, pV 2), (3, pV 3), (6, pV 6)] [(2, [.bx [lC 6 eLock r2.2.held, lC 6 eLock r2.2.wait]]), (3, [.bx [iC 0, iC 0, iC 0, sC ((⟨#[]⟩ : ByteArray)), sC ((⟨#[]⟩ : ByteArray)), bC false]]), (6, [.bx [iC j1.w6_0_0, iC j1.w6_0_1, iC j1.w6_0_2, sC j1.w6_0_3, sC j1.w6_0_4, bC j1.w6_0_5]])]) [2, 3, 6] tyOK (by kernel_rfl) ⟨by simp, by simp, trivial⟩ (by kernel_rfl) (by kernel_rfl) ?_
      refine aa_take (fuel := 1) (listed' := #[true, true, true, false]) (st' := mk 23 [(2, pV 2), (3, pV 3), (22, .agg [.c (iC j1.w6_0_0), .c (iC j1.w6_0_1), .c (iC j1.w6_0_2), .c (sC j1.w6_0_3), .c (sC j1.w6_0_4), .c (bC j1.w6_0_5)])] [(2, [.bx [lC 6 eLock r2.2.held, lC 6 eLock r2.2.wait]]), (3, [.bx [iC 0, iC 0, iC 0, sC ((⟨#[]⟩ : ByteArray)), sC ((⟨#[]⟩ : ByteArray)), bC false]])]) [1] [2, 3, 22] tyOK (by kernel_rfl) (by kernel_rfl) (by kernel_rfl) ?_
      refine aa_all [3] (by kernel_rfl) rfl ?_
      refine aa_cons ?_ aa_nil
      refine aone_any (listed' := #[true, true, true, true]) (st1 := mk 23 [(2, pV 2), (3, pV 3)] [(2, [.bx [lC 6 eLock r2.2.held, lC 6 eLock r2.2.wait]]), (3, [.bx [iC j1.w6_0_0, iC j1.w6_0_1, iC j1.w6_0_2, sC j1.w6_0_3, sC j1.w6_0_4, bC j1.w6_0_5]])]) [2, 3] tyOK (by kernel_rfl) (by kernel_rfl) ?_
      refine aa_done (by kernel_rfl) ?_
      show _ = _; kernel_rfl
    refine a_ret ?_
    obtain rfl := Option.some.inj h
    exact end_own (ob := [(((r2.2.held).map eLock).length, ((r2.2.held).map eLock).length), (((r2.2.wait).map eLock).length, ((r2.2.wait).map eLock).length)]) (res' := .tup [.agg [.so [] 0 0 (((r2.2.held).map eLock).length), .so [] 0 1 (((r2.2.wait).map eLock).length)], .agg [.c (iC j1.w6_0_0), .c (iC j1.w6_0_1), .c (iC j1.w6_0_2), .c (sC j1.w6_0_3), .c (sC j1.w6_0_4), .c (bC j1.w6_0_5)]]) (row' := [lC 6 eLock r2.2.held, lC 6 eLock r2.2.wait]) (by kernel_rfl) ⟨by simp, by simp, trivial⟩ (by first | rfl | simp) (by first | rfl | simp)

noncomputable def i_within (p0 : Int) (p1 : Int) (p2 : Int) : Bool :=
 bif (decide (p0 ≥ p1)) then (decide (p0 ≤ p2)) else false
set_option maxHeartbeats 4000000 in
/-- impl.within -/
theorem k_i_within (p0 : Int) (p1 : Int) (p2 : Int) (v : Bool) (h : i_within p0 p1 p2 = v) : CallOK Try.prog 91 [iV p0, iV p1, iV p2] (bV v) [] :=
  callOK tyOK Try.func91 rfl fun w S hS => by
    unfold i_within at h
    refine a_seq ?_
    refine a_run [0, 1, 2] tyOK (st1 := mk 15 [(0, iV p0), (1, iV p1), (2, iV p2)] []) (by kernel_rfl) ?_
    refine a_seq ?_
    refine a_mid (mk 15 [(6, bV (bif (decide (p0 ≥ p1)) then (decide (p0 ≤ p2)) else false))] []) ?_ ?_
    · refine a_ops [0, 1, 2, 3, 4, 5, 6, 7, 8] (by kernel_rfl) ?_
      refine ao_someM [0, 1, 2, 3] [4, 5, 6, 7, 8] tyOK (l1 := [(0, iV p0), (2, iV p2), (10, bV (decide (p0 ≥ p1)))]) (by kernel_rfl) ?_
      rcases Bool.eq_false_or_eq_true (decide (p0 ≥ p1)) with h1 | h1
      · refine ao_saysM (k := 10) (t := bV (decide (p0 ≥ p1))) (t' := bV true) (l1 := [(0, iV p0), (2, iV p2), (10, bV true)]) (by kernel_rfl) (by rw [h1]) (by kernel_rfl) ?_
        refine ao_someM [4, 5, 6, 7, 8] [] tyOK (l1 := [(6, bV (decide (p0 ≤ p2)))]) (by kernel_rfl) ?_
        refine ao_nil ?_
        show mk 15 [(6, bV (decide (p0 ≤ p2)))] [] = mk 15 [(6, bV (bif (decide (p0 ≥ p1)) then (decide (p0 ≤ p2)) else false))] []
        first | rfl | (simp only [h1, cond_true, cond_false]) | (simp only [h1, cond_true, cond_false]; rfl)
      · refine ao_saysM (k := 10) (t := bV (decide (p0 ≥ p1))) (t' := bV false) (l1 := [(0, iV p0), (2, iV p2), (10, bV false)]) (by kernel_rfl) (by rw [h1]) (by kernel_rfl) ?_
        refine ao_someM [4, 5, 6, 7, 8] [] tyOK (l1 := [(6, bV false)]) (by kernel_rfl) ?_
        refine ao_nil ?_
        show mk 15 [(6, bV false)] [] = mk 15 [(6, bV (bif (decide (p0 ≥ p1)) then (decide (p0 ≤ p2)) else false))] []
        first | rfl | (simp only [h1, cond_true, cond_false]) | (simp only [h1, cond_true, cond_false]; rfl)
    refine a_ret ?_
    obtain rfl := h
    exact end_eq (res' := bV (bif (decide (p0 ≥ p1)) then (decide (p0 ≤ p2)) else false)) (by kernel_rfl) (by first | rfl | simp)

noncomputable def i_TxOk (p0 : Tx) : Bool :=
 bif (i_within p0.c 0 7) then (bif (i_within p0.e 1 999) then (i_within p0.n 1 999) else false) else false
set_option maxHeartbeats 4000000 in
/-- impl.TxOk -/
theorem k_i_TxOk (p0 : Tx) (v : Bool) (h : i_TxOk p0 = v) : CallOK Try.prog 101 [.agg [.c (iC p0.c), .c (iC p0.e), .c (iC p0.n)]] (bV v) [] :=
  callOK tyOK Try.func101 rfl fun w S hS => by
    unfold i_TxOk at h
    refine a_seq ?_
    refine a_run [1] tyOK (st1 := mk 16 [(1, pV 1)] [(1, [.bx [iC p0.c, iC p0.e, iC p0.n]])]) (by kernel_rfl) ?_
    refine a_seq ?_
    refine a_mid (mk 16 [(2, bV (bif (i_within p0.c 0 7) then (bif (i_within p0.e 1 999) then (i_within p0.n 1 999) else false) else false))] []) ?_ ?_
    · refine a_ops [0, 1, 2, 3, 4, 5, 6, 7, 8, 9, 10, 11, 12, 13] (by kernel_rfl) ?_
      refine ao_someM [0, 1] [2, 3, 4, 5, 6, 7, 8, 9, 10, 11, 12, 13] tyOK (l1 := [(1, pV 1), (4, iV p0.c)]) (by kernel_rfl) ?_
      refine ao_enterM (f := 91) (d := 5) (A := [iV p0.c, iV 0, iV 7]) (l1 := [(1, pV 1), (5, bV (i_within p0.c 0 7))]) (k_i_within p0.c 0 7 _ rfl) Try.call91 (by kernel_rfl) (by kernel_rfl) (by kernel_rfl) ?_
      refine ao_someM [3] [4, 5, 6, 7, 8, 9, 10, 11, 12, 13] tyOK (l1 := [(1, pV 1), (6, bV (i_within p0.c 0 7))]) (by kernel_rfl) ?_
      rcases Bool.eq_false_or_eq_true (i_within p0.c 0 7) with h1 | h1
      · refine ao_saysM (k := 6) (t := bV (i_within p0.c 0 7)) (t' := bV true) (l1 := [(1, pV 1), (6, bV true)]) (by kernel_rfl) (by rw [h1]) (by kernel_rfl) ?_
        refine ao_someM [4, 5] [6, 7, 8, 9, 10, 11, 12, 13] tyOK (l1 := [(1, pV 1), (6, bV true), (8, iV p0.e)]) (by kernel_rfl) ?_
        refine ao_enterM (f := 91) (d := 9) (A := [iV p0.e, iV 1, iV 999]) (l1 := [(1, pV 1), (6, bV true), (9, bV (i_within p0.e 1 999))]) (k_i_within p0.e 1 999 _ rfl) Try.call91 (by kernel_rfl) (by kernel_rfl) (by kernel_rfl) ?_
        refine ao_someM [7, 8] [9, 10, 11, 12, 13] tyOK (l1 := [(1, pV 1), (11, bV (i_within p0.e 1 999))]) (by kernel_rfl) ?_
        rcases Bool.eq_false_or_eq_true (i_within p0.e 1 999) with h2 | h2
        · refine ao_saysM (k := 11) (t := bV (i_within p0.e 1 999)) (t' := bV true) (l1 := [(1, pV 1), (11, bV true)]) (by kernel_rfl) (by rw [h2]) (by kernel_rfl) ?_
          refine ao_some [9, 10] [11, 12, 13] [11, 13] tyOK (st1 := mk 16 [(11, bV true), (13, iV p0.n)] []) (by kernel_rfl) ?_
          refine ao_enterM (f := 91) (d := 14) (A := [iV p0.n, iV 1, iV 999]) (l1 := [(11, bV true), (14, bV (i_within p0.n 1 999))]) (k_i_within p0.n 1 999 _ rfl) Try.call91 (by kernel_rfl) (by kernel_rfl) (by kernel_rfl) ?_
          refine ao_someM [12, 13] [] tyOK (l1 := [(2, bV (i_within p0.n 1 999))]) (by kernel_rfl) ?_
          refine ao_nil ?_
          show mk 16 [(2, bV (i_within p0.n 1 999))] [] = mk 16 [(2, bV (bif (i_within p0.c 0 7) then (bif (i_within p0.e 1 999) then (i_within p0.n 1 999) else false) else false))] []
          first | rfl | (simp only [h1, h2, cond_true, cond_false]) | (simp only [h1, h2, cond_true, cond_false]; rfl)
        · refine ao_saysM (k := 11) (t := bV (i_within p0.e 1 999)) (t' := bV false) (l1 := [(1, pV 1), (11, bV false)]) (by kernel_rfl) (by rw [h2]) (by kernel_rfl) ?_
          refine ao_some [9, 10, 11, 12, 13] [] [2] tyOK (st1 := mk 16 [(2, bV false)] []) (by kernel_rfl) ?_
          refine ao_nil ?_
          show mk 16 [(2, bV false)] [] = mk 16 [(2, bV (bif (i_within p0.c 0 7) then (bif (i_within p0.e 1 999) then (i_within p0.n 1 999) else false) else false))] []
          first | rfl | (simp only [h1, h2, cond_true, cond_false]) | (simp only [h1, h2, cond_true, cond_false]; rfl)
      · refine ao_saysM (k := 6) (t := bV (i_within p0.c 0 7)) (t' := bV false) (l1 := [(1, pV 1), (6, bV false)]) (by kernel_rfl) (by rw [h1]) (by kernel_rfl) ?_
        refine ao_some [4, 5, 6, 7, 8, 9, 10, 11, 12, 13] [] [2] tyOK (st1 := mk 16 [(2, bV false)] []) (by kernel_rfl) ?_
        refine ao_nil ?_
        show mk 16 [(2, bV false)] [] = mk 16 [(2, bV (bif (i_within p0.c 0 7) then (bif (i_within p0.e 1 999) then (i_within p0.n 1 999) else false) else false))] []
        first | rfl | (simp only [h1, cond_true, cond_false]) | (simp only [h1, cond_true, cond_false]; rfl)
    refine a_ret ?_
    obtain rfl := h
    exact end_eq (res' := bV (bif (i_within p0.c 0 7) then (bif (i_within p0.e 1 999) then (i_within p0.n 1 999) else false) else false)) (by kernel_rfl) (by first | rfl | simp)


end Go.Proofs.Ytagoajkiccgmjaa
namespace Go.Proofs.Ytagoajkiccgmjaa
open Go.Mv Go.RowKit
noncomputable def i_RangeOk (p0 : Range) : Bool :=
 bif (decide (((p0.lo.size : Int)) ≤ 17)) then (bif (decide (((p0.hi.size : Int)) ≤ 17)) then (bif ((p0.hi.toList == ((⟨#[]⟩ : ByteArray)).toList)) then true else (!(Op.bytesLess p0.hi.toList p0.lo.toList || p0.hi.toList == p0.lo.toList))) else false) else false
set_option maxHeartbeats 4000000 in
/-- impl.RangeOk -/
theorem k_i_RangeOk (p0 : Range) (v : Bool) (h : i_RangeOk p0 = v) : CallOK Try.prog 102 [.agg [.c (sC p0.lo), .c (sC p0.hi)]] (bV v) [] :=
  callOK tyOK Try.func102 rfl fun w S hS => by
    unfold i_RangeOk at h
    refine a_seq ?_
    refine a_run [1] tyOK (st1 := mk 25 [(1, pV 1)] [(1, [.bx [sC p0.lo, sC p0.hi]])]) (by kernel_rfl) ?_
    refine a_seq ?_
    refine a_mid (mk 25 [(2, bV (bif (decide (((p0.lo.size : Int)) ≤ 17)) then (bif (decide (((p0.hi.size : Int)) ≤ 17)) then (bif ((p0.hi.toList == ((⟨#[]⟩ : ByteArray)).toList)) then true else (!(Op.bytesLess p0.hi.toList p0.lo.toList || p0.hi.toList == p0.lo.toList))) else false) else false))] []) ?_ ?_
    · refine a_ops [0, 1, 2, 3, 4, 5, 6, 7, 8, 9, 10, 11, 12, 13, 14, 15, 16, 17, 18, 19, 20, 21, 22] (by kernel_rfl) ?_
      refine ao_someM [0, 1, 2, 3, 4] [5, 6, 7, 8, 9, 10, 11, 12, 13, 14, 15, 16, 17, 18, 19, 20, 21, 22] tyOK (l1 := [(1, pV 1), (7, bV (decide (((p0.lo.size : Int)) ≤ 17)))]) (by kernel_rfl) ?_
      rcases Bool.eq_false_or_eq_true (decide (((p0.lo.size : Int)) ≤ 17)) with h1 | h1
      · refine ao_saysM (k := 7) (t := bV (decide (((p0.lo.size : Int)) ≤ 17))) (t' := bV true) (l1 := [(1, pV 1), (7, bV true)]) (by kernel_rfl) (by rw [h1]) (by kernel_rfl) ?_
        refine ao_someM [5, 6, 7, 8, 9, 10] [11, 12, 13, 14, 15, 16, 17, 18, 19, 20, 21, 22] tyOK (l1 := [(1, pV 1), (13, bV (decide (((p0.hi.size : Int)) ≤ 17)))]) (by kernel_rfl) ?_
        rcases Bool.eq_false_or_eq_true (decide (((p0.hi.size : Int)) ≤ 17)) with h2 | h2
        · refine ao_saysM (k := 13) (t := bV (decide (((p0.hi.size : Int)) ≤ 17))) (t' := bV true) (l1 := [(1, pV 1), (13, bV true)]) (by kernel_rfl) (by rw [h2]) (by kernel_rfl) ?_
          refine ao_someM [11, 12, 13, 14] [15, 16, 17, 18, 19, 20, 21, 22] tyOK (l1 := [(1, pV 1), (13, bV true), (17, bV ((p0.hi.toList == ((⟨#[]⟩ : ByteArray)).toList)))]) (by kernel_rfl) ?_
          rcases Bool.eq_false_or_eq_true ((p0.hi.toList == ((⟨#[]⟩ : ByteArray)).toList)) with h3 | h3
          · refine ao_saysM (k := 17) (t := bV ((p0.hi.toList == ((⟨#[]⟩ : ByteArray)).toList))) (t' := bV true) (l1 := [(1, pV 1), (13, bV true), (17, bV true)]) (by kernel_rfl) (by rw [h3]) (by kernel_rfl) ?_
            refine ao_some [15, 16, 17, 18, 19, 20, 21, 22] [] [2] tyOK (st1 := mk 25 [(2, bV true)] []) (by kernel_rfl) ?_
            refine ao_nil ?_
            show mk 25 [(2, bV true)] [] = mk 25 [(2, bV (bif (decide (((p0.lo.size : Int)) ≤ 17)) then (bif (decide (((p0.hi.size : Int)) ≤ 17)) then (bif ((p0.hi.toList == ((⟨#[]⟩ : ByteArray)).toList)) then true else (!(Op.bytesLess p0.hi.toList p0.lo.toList || p0.hi.toList == p0.lo.toList))) else false) else false))] []
            first | rfl | (simp only [h1, h2, h3, cond_true, cond_false]) | (simp only [h1, h2, h3, cond_true, cond_false]; rfl)
          · refine ao_saysM (k := 17) (t := bV ((p0.hi.toList == ((⟨#[]⟩ : ByteArray)).toList))) (t' := bV false) (l1 := [(1, pV 1), (13, bV true), (17, bV false)]) (by kernel_rfl) (by rw [h3]) (by kernel_rfl) ?_
            refine ao_some [15, 16, 17, 18, 19, 20, 21, 22] [] [2] tyOK (st1 := mk 25 [(2, bV (!(Op.bytesLess p0.hi.toList p0.lo.toList || p0.hi.toList == p0.lo.toList)))] []) (by kernel_rfl) ?_
            refine ao_nil ?_
            show mk 25 [(2, bV (!(Op.bytesLess p0.hi.toList p0.lo.toList || p0.hi.toList == p0.lo.toList)))] [] = mk 25 [(2, bV (bif (decide (((p0.lo.size : Int)) ≤ 17)) then (bif (decide (((p0.hi.size : Int)) ≤ 17)) then (bif ((p0.hi.toList == ((⟨#[]⟩ : ByteArray)).toList)) then true else (!(Op.bytesLess p0.hi.toList p0.lo.toList || p0.hi.toList == p0.lo.toList))) else false) else false))] []
            first | rfl | (simp only [h1, h2, h3, cond_true, cond_false]) | (simp only [h1, h2, h3, cond_true, cond_false]; rfl)
        · refine ao_saysM (k := 13) (t := bV (decide (((p0.hi.size : Int)) ≤ 17))) (t' := bV false) (l1 := [(1, pV 1), (13, bV false)]) (by kernel_rfl) (by rw [h2]) (by kernel_rfl) ?_
          refine ao_some [11, 12, 13, 14, 15, 16, 17, 18, 19, 20, 21, 22] [] [2] tyOK (st1 := mk 25 [(2, bV false)] []) (by kernel_rfl) ?_
          refine ao_nil ?_
          show mk 25 [(2, bV false)] [] = mk 25 [(2, bV (bif (decide (((p0.lo.size : Int)) ≤ 17)) then (bif (decide (((p0.hi.size : Int)) ≤ 17)) then (bif ((p0.hi.toList == ((⟨#[]⟩ : ByteArray)).toList)) then true else (!(Op.bytesLess p0.hi.toList p0.lo.toList || p0.hi.toList == p0.lo.toList))) else false) else false))] []
          first | rfl | (simp only [h1, h2, cond_true, cond_false]) | (simp only [h1, h2, cond_true, cond_false]; rfl)
      · refine ao_saysM (k := 7) (t := bV (decide (((p0.lo.size : Int)) ≤ 17))) (t' := bV false) (l1 := [(1, pV 1), (7, bV false)]) (by kernel_rfl) (by rw [h1]) (by kernel_rfl) ?_
        refine ao_some [5, 6, 7, 8, 9, 10, 11, 12, 13, 14, 15, 16, 17, 18, 19, 20, 21, 22] [] [2] tyOK (st1 := mk 25 [(2, bV false)] []) (by kernel_rfl) ?_
        refine ao_nil ?_
        show mk 25 [(2, bV false)] [] = mk 25 [(2, bV (bif (decide (((p0.lo.size : Int)) ≤ 17)) then (bif (decide (((p0.hi.size : Int)) ≤ 17)) then (bif ((p0.hi.toList == ((⟨#[]⟩ : ByteArray)).toList)) then true else (!(Op.bytesLess p0.hi.toList p0.lo.toList || p0.hi.toList == p0.lo.toList))) else false) else false))] []
        first | rfl | (simp only [h1, cond_true, cond_false]) | (simp only [h1, cond_true, cond_false]; rfl)
    refine a_ret ?_
    obtain rfl := h
    exact end_eq (res' := bV (bif (decide (((p0.lo.size : Int)) ≤ 17)) then (bif (decide (((p0.hi.size : Int)) ≤ 17)) then (bif ((p0.hi.toList == ((⟨#[]⟩ : ByteArray)).toList)) then true else (!(Op.bytesLess p0.hi.toList p0.lo.toList || p0.hi.toList == p0.lo.toList))) else false) else false)) (by kernel_rfl) (by first | rfl | simp)

noncomputable def i_lockOk (p0 : Lock) : Bool :=
 bif (i_TxOk p0.tx) then (i_RangeOk p0.range) else false
set_option maxHeartbeats 4000000 in
/-- impl.lockOk -/
theorem k_i_lockOk (p0 : Lock) (v : Bool) (h : i_lockOk p0 = v) : CallOK Try.prog 58 [.agg [.c (iC p0.tx.c), .c (iC p0.tx.e), .c (iC p0.tx.n), .c (sC p0.range.lo), .c (sC p0.range.hi), .c (bC p0.ex)]] (bV v) [] :=
  callOK tyOK Try.func58 rfl fun w S hS => by
    unfold i_lockOk at h
    refine a_seq ?_
    refine a_run [1] tyOK (st1 := mk 11 [(1, pV 1)] [(1, [.bx [iC p0.tx.c, iC p0.tx.e, iC p0.tx.n, sC p0.range.lo, sC p0.range.hi, bC p0.ex]])]) (by kernel_rfl) ?_
    refine a_seq ?_
    refine a_mid (mk 11 [(2, bV (bif (i_TxOk p0.tx) then (i_RangeOk p0.range) else false))] []) ?_ ?_
    · refine a_ops [0, 1, 2, 3, 4, 5, 6, 7, 8] (by kernel_rfl) ?_
      refine ao_someM [0, 1] [2, 3, 4, 5, 6, 7, 8] tyOK (l1 := [(1, pV 1), (4, .agg [.c (iC p0.tx.c), .c (iC p0.tx.e), .c (iC p0.tx.n)])]) (by kernel_rfl) ?_
      refine ao_enterM (f := 101) (d := 5) (A := [.agg [.c (iC p0.tx.c), .c (iC p0.tx.e), .c (iC p0.tx.n)]]) (l1 := [(1, pV 1), (5, bV (i_TxOk p0.tx))]) (k_i_TxOk p0.tx _ rfl) Try.call101 (by kernel_rfl) (by kernel_rfl) (by kernel_rfl) ?_
      refine ao_someM [3] [4, 5, 6, 7, 8] tyOK (l1 := [(1, pV 1), (6, bV (i_TxOk p0.tx))]) (by kernel_rfl) ?_
      rcases Bool.eq_false_or_eq_true (i_TxOk p0.tx) with h1 | h1
      · refine ao_saysM (k := 6) (t := bV (i_TxOk p0.tx)) (t' := bV true) (l1 := [(1, pV 1), (6, bV true)]) (by kernel_rfl) (by rw [h1]) (by kernel_rfl) ?_
        refine ao_some [4, 5] [6, 7, 8] [6, 8] tyOK (st1 := mk 11 [(6, bV true), (8, .agg [.c (sC p0.range.lo), .c (sC p0.range.hi)])] []) (by kernel_rfl) ?_
        refine ao_enterM (f := 102) (d := 9) (A := [.agg [.c (sC p0.range.lo), .c (sC p0.range.hi)]]) (l1 := [(6, bV true), (9, bV (i_RangeOk p0.range))]) (k_i_RangeOk p0.range _ rfl) Try.call102 (by kernel_rfl) (by kernel_rfl) (by kernel_rfl) ?_
        refine ao_someM [7, 8] [] tyOK (l1 := [(2, bV (i_RangeOk p0.range))]) (by kernel_rfl) ?_
        refine ao_nil ?_
        show mk 11 [(2, bV (i_RangeOk p0.range))] [] = mk 11 [(2, bV (bif (i_TxOk p0.tx) then (i_RangeOk p0.range) else false))] []
        first | rfl | (simp only [h1, cond_true, cond_false]) | (simp only [h1, cond_true, cond_false]; rfl)
      · refine ao_saysM (k := 6) (t := bV (i_TxOk p0.tx)) (t' := bV false) (l1 := [(1, pV 1), (6, bV false)]) (by kernel_rfl) (by rw [h1]) (by kernel_rfl) ?_
        refine ao_some [4, 5, 6, 7, 8] [] [2] tyOK (st1 := mk 11 [(2, bV false)] []) (by kernel_rfl) ?_
        refine ao_nil ?_
        show mk 11 [(2, bV false)] [] = mk 11 [(2, bV (bif (i_TxOk p0.tx) then (i_RangeOk p0.range) else false))] []
        first | rfl | (simp only [h1, cond_true, cond_false]) | (simp only [h1, cond_true, cond_false]; rfl)
    refine a_ret ?_
    obtain rfl := h
    exact end_eq (res' := bV (bif (i_TxOk p0.tx) then (i_RangeOk p0.range) else false)) (by kernel_rfl) (by first | rfl | simp)

noncomputable def i_RangeBoth (p0 : Range) (p1 : Range) : Option (Range × Bool) :=
 bif (bif (!(i_RangeOk p0)) then true else (!(i_RangeOk p1))) then
 (some (((⟨(⟨#[]⟩ : ByteArray), (⟨#[]⟩ : ByteArray)⟩ : Range), false)))
 else
 (bnd (bif (bif ((p0.hi.toList == ((⟨#[]⟩ : ByteArray)).toList)) then true else (bif (!(p1.hi.toList == ((⟨#[]⟩ : ByteArray)).toList)) then (Op.bytesLess p1.hi.toList p0.hi.toList) else false)) then
 (some p1.hi)
 else
 (some p0.hi)) fun j1 =>
 bif (!(i_RangeOk ((⟨maxS p0.lo p1.lo, j1⟩ : Range)))) then
 (some (((⟨(⟨#[]⟩ : ByteArray), (⟨#[]⟩ : ByteArray)⟩ : Range), false)))
 else
 (some (((⟨maxS p0.lo p1.lo, j1⟩ : Range), true))))
set_option maxHeartbeats 4000000 in
/-- impl.RangeBoth -/
theorem k_i_RangeBoth (p0 : Range) (p1 : Range) (v : Range × Bool) (h : i_RangeBoth p0 p1 = some v) : CallOK Try.prog 132 [.agg [.c (sC p0.lo), .c (sC p0.hi)], .agg [.c (sC p1.lo), .c (sC p1.hi)]] (.tup [.agg [.c (sC v.1.lo), .c (sC v.1.hi)], .one (.c (bC v.2))]) [] :=
  callOK tyOK Try.func132 rfl fun w S hS => by
    unfold i_RangeBoth at h
    refine a_seq ?_
    refine a_run [2, 3, 4] tyOK (st1 := mk 47 [(2, pV 2), (3, pV 3), (4, pV 4)] [(2, [.bx [sC p0.lo, sC p0.hi]]), (3, [.bx [sC p1.lo, sC p1.hi]]), (4, [.bx [sC ((⟨#[]⟩ : ByteArray)), sC ((⟨#[]⟩ : ByteArray))]])]) (by kernel_rfl) ?_
    refine a_seq ?_
    refine a_seq ?_
    refine a_mid (mk 47 [(2, pV 2), (3, pV 3), (4, pV 4), (14, bV (bif (!(i_RangeOk p0)) then true else (!(i_RangeOk p1))))] [(2, [.bx [sC p0.lo, sC p0.hi]]), (3, [.bx [sC p1.lo, sC p1.hi]]), (4, [.bx [sC ((⟨#[]⟩ : ByteArray)), sC ((⟨#[]⟩ : ByteArray))]])]) ?_ ?_
    · refine a_ops [0, 1, 2, 3, 4, 5, 6, 7] (by kernel_rfl) ?_
      refine ao_someM [0] [1, 2, 3, 4, 5, 6, 7] tyOK (l1 := [(2, pV 2), (3, pV 3), (4, pV 4), (7, .agg [.c (sC p0.lo), .c (sC p0.hi)])]) (by kernel_rfl) ?_
      refine ao_enterM (f := 102) (d := 8) (A := [.agg [.c (sC p0.lo), .c (sC p0.hi)]]) (l1 := [(2, pV 2), (3, pV 3), (4, pV 4), (8, bV (i_RangeOk p0))]) (k_i_RangeOk p0 _ rfl) Try.call102 (by kernel_rfl) (by kernel_rfl) (by kernel_rfl) ?_
      refine ao_someM [2, 3] [4, 5, 6, 7] tyOK (l1 := [(2, pV 2), (3, pV 3), (4, pV 4), (10, bV (!(i_RangeOk p0)))]) (by kernel_rfl) ?_
      rcases Bool.eq_false_or_eq_true (!(i_RangeOk p0)) with h1 | h1
      · refine ao_saysM (k := 10) (t := bV (!(i_RangeOk p0))) (t' := bV true) (l1 := [(2, pV 2), (3, pV 3), (4, pV 4), (10, bV true)]) (by kernel_rfl) (by rw [h1]) (by kernel_rfl) ?_
        refine ao_someM [4, 5, 6, 7] [] tyOK (l1 := [(2, pV 2), (3, pV 3), (4, pV 4), (14, bV true)]) (by kernel_rfl) ?_
        refine ao_nil ?_
        show mk 47 [(2, pV 2), (3, pV 3), (4, pV 4), (14, bV true)] [(2, [.bx [sC p0.lo, sC p0.hi]]), (3, [.bx [sC p1.lo, sC p1.hi]]), (4, [.bx [sC ((⟨#[]⟩ : ByteArray)), sC ((⟨#[]⟩ : ByteArray))]])] = mk 47 [(2, pV 2), (3, pV 3), (4, pV 4), (14, bV (bif (!(i_RangeOk p0)) then true else (!(i_RangeOk p1))))] [(2, [.bx [sC p0.lo, sC p0.hi]]), (3, [.bx [sC p1.lo, sC p1.hi]]), (4, [.bx [sC ((⟨#[]⟩ : ByteArray)), sC ((⟨#[]⟩ : ByteArray))]])]
        first | rfl | (simp only [h1, cond_true, cond_false]) | (simp only [h1, cond_true, cond_false]; rfl)
      · refine ao_saysM (k := 10) (t := bV (!(i_RangeOk p0))) (t' := bV false) (l1 := [(2, pV 2), (3, pV 3), (4, pV 4), (10, bV false)]) (by kernel_rfl) (by rw [h1]) (by kernel_rfl) ?_
        refine ao_someM [4] [5, 6, 7] tyOK (l1 := [(2, pV 2), (3, pV 3), (4, pV 4), (10, bV false), (11, .agg [.c (sC p1.lo), .c (sC p1.hi)])]) (by kernel_rfl) ?_
        refine ao_enterM (f := 102) (d := 12) (A := [.agg [.c (sC p1.lo), .c (sC p1.hi)]]) (l1 := [(2, pV 2), (3, pV 3), (4, pV 4), (10, bV false), (12, bV (i_RangeOk p1))]) (k_i_RangeOk p1 _ rfl) Try.call102 (by kernel_rfl) (by kernel_rfl) (by kernel_rfl) ?_
        refine ao_someM [6, 7] [] tyOK (l1 := [(2, pV 2), (3, pV 3), (4, pV 4), (14, bV (!(i_RangeOk p1)))]) (by kernel_rfl) ?_
        refine ao_nil ?_
        show mk 47 [(2, pV 2), (3, pV 3), (4, pV 4), (14, bV (!(i_RangeOk p1)))] [(2, [.bx [sC p0.lo, sC p0.hi]]), (3, [.bx [sC p1.lo, sC p1.hi]]), (4, [.bx [sC ((⟨#[]⟩ : ByteArray)), sC ((⟨#[]⟩ : ByteArray))]])] = mk 47 [(2, pV 2), (3, pV 3), (4, pV 4), (14, bV (bif (!(i_RangeOk p0)) then true else (!(i_RangeOk p1))))] [(2, [.bx [sC p0.lo, sC p0.hi]]), (3, [.bx [sC p1.lo, sC p1.hi]]), (4, [.bx [sC ((⟨#[]⟩ : ByteArray)), sC ((⟨#[]⟩ : ByteArray))]])]
        first | rfl | (simp only [h1, cond_true, cond_false]) | (simp only [h1, cond_true, cond_false]; rfl)
    refine a_cond (b := bif (!(i_RangeOk p0)) then true else (!(i_RangeOk p1))) (by kernel_rfl) (fun h1 => ?_) (fun h1 => ?_)
    · replace h := cT h1 h
      refine a_seq ?_
      refine a_run [4, 5] tyOK (st1 := mk 47 [(4, pV 4), (5, bV false)] [(4, [.bx [sC ((⟨#[]⟩ : ByteArray)), sC ((⟨#[]⟩ : ByteArray))]])]) (by kernel_rfl) ?_
      refine a_ret ?_
      obtain rfl := Option.some.inj h
      exact end_eq (res' := .tup [.agg [.c (sC ((⟨#[]⟩ : ByteArray))), .c (sC ((⟨#[]⟩ : ByteArray)))], .one (.c (bC false))]) (by kernel_rfl) (by first | rfl | simp)
    · replace h := cF h1 h
      refine a_skip ?_
      refine a_seq ?_
      refine a_ops [0, 1, 2, 3, 4, 5, 6, 7, 8, 9] (by kernel_rfl) ?_
      refine ao_someM [0, 1, 2, 3] [4, 5, 6, 7, 8, 9] tyOK (l1 := [(2, pV 2), (3, pV 3), (4, pV 4), (17, sV p0.lo), (19, sV p1.lo)]) (by kernel_rfl) ?_
      refine ao_max (d := 20) (s := p0.lo) (t := p1.lo) (st1 := mk 47 [(2, pV 2), (3, pV 3), (4, pV 4), (20, sV (maxS p0.lo p1.lo))] [(2, [.bx [sC p0.lo, sC p0.hi]]), (3, [.bx [sC p1.lo, sC p1.hi]]), (4, [.bx [sC ((⟨#[]⟩ : ByteArray)), sC ((⟨#[]⟩ : ByteArray))]])]) [2, 3, 4, 20] (by kernel_rfl) (by kernel_rfl) ?_
      refine ao_some [5, 6, 7, 8, 9] [] [2, 3, 4, 6] tyOK (st1 := mk 47 [(2, pV 2), (3, pV 3), (4, pV 4), (6, pV 6)] [(2, [.bx [sC p0.lo, sC p0.hi]]), (3, [.bx [sC p1.lo, sC p1.hi]]), (4, [.bx [sC ((⟨#[]⟩ : ByteArray)), sC ((⟨#[]⟩ : ByteArray))]]), (6, [.bx [sC (maxS p0.lo p1.lo), sC p0.hi]])]) (by kernel_rfl) ?_
      refine ao_nil ?_
      refine a_seq ?_
      refine a_seq ?_
      refine a_mid (mk 47 [(3, pV 3), (4, pV 4), (6, pV 6), (38, bV (bif ((p0.hi.toList == ((⟨#[]⟩ : ByteArray)).toList)) then true else (bif (!(p1.hi.toList == ((⟨#[]⟩ : ByteArray)).toList)) then (Op.bytesLess p1.hi.toList p0.hi.toList) else false)))] [(3, [.bx [sC p1.lo, sC p1.hi]]), (4, [.bx [sC ((⟨#[]⟩ : ByteArray)), sC ((⟨#[]⟩ : ByteArray))]]), (6, [.bx [sC (maxS p0.lo p1.lo), sC p0.hi]])]) ?_ ?_
      · refine a_ops [0, 1, 2, 3, 4, 5, 6, 7, 8, 9, 10, 11, 12, 13, 14] (by kernel_rfl) ?_
        refine ao_someM [0, 1, 2, 3] [4, 5, 6, 7, 8, 9, 10, 11, 12, 13, 14] tyOK (l1 := [(2, pV 2), (3, pV 3), (4, pV 4), (6, pV 6), (27, bV ((p0.hi.toList == ((⟨#[]⟩ : ByteArray)).toList)))]) (by kernel_rfl) ?_
        rcases Bool.eq_false_or_eq_true ((p0.hi.toList == ((⟨#[]⟩ : ByteArray)).toList)) with h2 | h2
        · refine ao_saysM (k := 27) (t := bV ((p0.hi.toList == ((⟨#[]⟩ : ByteArray)).toList))) (t' := bV true) (l1 := [(2, pV 2), (3, pV 3), (4, pV 4), (6, pV 6), (27, bV true)]) (by kernel_rfl) (by rw [h2]) (by kernel_rfl) ?_
          refine ao_some [4, 5, 6, 7, 8, 9, 10, 11, 12, 13, 14] [] [3, 4, 6, 38] tyOK (st1 := mk 47 [(3, pV 3), (4, pV 4), (6, pV 6), (38, bV true)] [(3, [.bx [sC p1.lo, sC p1.hi]]), (4, [.bx [sC ((⟨#[]⟩ : ByteArray)), sC ((⟨#[]⟩ : ByteArray))]]), (6, [.bx [sC (maxS p0.lo p1.lo), sC p0.hi]])]) (by kernel_rfl) ?_
          refine ao_nil ?_
          show mk 47 [(3, pV 3), (4, pV 4), (6, pV 6), (38, bV true)] [(3, [.bx [sC p1.lo, sC p1.hi]]), (4, [.bx [sC ((⟨#[]⟩ : ByteArray)), sC ((⟨#[]⟩ : ByteArray))]]), (6, [.bx [sC (maxS p0.lo p1.lo), sC p0.hi]])] = mk 47 [(3, pV 3), (4, pV 4), (6, pV 6), (38, bV (bif ((p0.hi.toList == ((⟨#[]⟩ : ByteArray)).toList)) then true else (bif (!(p1.hi.toList == ((⟨#[]⟩ : ByteArray)).toList)) then (Op.bytesLess p1.hi.toList p0.hi.toList) else false)))] [(3, [.bx [sC p1.lo, sC p1.hi]]), (4, [.bx [sC ((⟨#[]⟩ : ByteArray)), sC ((⟨#[]⟩ : ByteArray))]]), (6, [.bx [sC (maxS p0.lo p1.lo), sC p0.hi]])]
          first | rfl | (simp only [h2, cond_true, cond_false]) | (simp only [h2, cond_true, cond_false]; rfl)
        · refine ao_saysM (k := 27) (t := bV ((p0.hi.toList == ((⟨#[]⟩ : ByteArray)).toList))) (t' := bV false) (l1 := [(2, pV 2), (3, pV 3), (4, pV 4), (6, pV 6), (27, bV false)]) (by kernel_rfl) (by rw [h2]) (by kernel_rfl) ?_
          refine ao_someM [4, 5, 6, 7] [8, 9, 10, 11, 12, 13, 14] tyOK (l1 := [(2, pV 2), (3, pV 3), (4, pV 4), (6, pV 6), (27, bV false), (31, bV (!(p1.hi.toList == ((⟨#[]⟩ : ByteArray)).toList)))]) (by kernel_rfl) ?_
          rcases Bool.eq_false_or_eq_true (!(p1.hi.toList == ((⟨#[]⟩ : ByteArray)).toList)) with h3 | h3
          · refine ao_saysM (k := 31) (t := bV (!(p1.hi.toList == ((⟨#[]⟩ : ByteArray)).toList))) (t' := bV true) (l1 := [(2, pV 2), (3, pV 3), (4, pV 4), (6, pV 6), (27, bV false), (31, bV true)]) (by kernel_rfl) (by rw [h3]) (by kernel_rfl) ?_
            refine ao_some [8, 9, 10, 11, 12, 13, 14] [] [3, 4, 6, 38] tyOK (st1 := mk 47 [(3, pV 3), (4, pV 4), (6, pV 6), (38, bV (Op.bytesLess p1.hi.toList p0.hi.toList))] [(3, [.bx [sC p1.lo, sC p1.hi]]), (4, [.bx [sC ((⟨#[]⟩ : ByteArray)), sC ((⟨#[]⟩ : ByteArray))]]), (6, [.bx [sC (maxS p0.lo p1.lo), sC p0.hi]])]) (by kernel_rfl) ?_
            refine ao_nil ?_
            show mk 47 [(3, pV 3), (4, pV 4), (6, pV 6), (38, bV (Op.bytesLess p1.hi.toList p0.hi.toList))] [(3, [.bx [sC p1.lo, sC p1.hi]]), (4, [.bx [sC ((⟨#[]⟩ : ByteArray)), sC ((⟨#[]⟩ : ByteArray))]]), (6, [.bx [sC (maxS p0.lo p1.lo), sC p0.hi]])] = mk 47 [(3, pV 3), (4, pV 4), (6, pV 6), (38, bV (bif ((p0.hi.toList == ((⟨#[]⟩ : ByteArray)).toList)) then true else (bif (!(p1.hi.toList == ((⟨#[]⟩ : ByteArray)).toList)) then (Op.bytesLess p1.hi.toList p0.hi.toList) else false)))] [(3, [.bx [sC p1.lo, sC p1.hi]]), (4, [.bx [sC ((⟨#[]⟩ : ByteArray)), sC ((⟨#[]⟩ : ByteArray))]]), (6, [.bx [sC (maxS p0.lo p1.lo), sC p0.hi]])]
            first | rfl | (simp only [h2, h3, cond_true, cond_false]) | (simp only [h2, h3, cond_true, cond_false]; rfl)
          · refine ao_saysM (k := 31) (t := bV (!(p1.hi.toList == ((⟨#[]⟩ : ByteArray)).toList))) (t' := bV false) (l1 := [(2, pV 2), (3, pV 3), (4, pV 4), (6, pV 6), (27, bV false), (31, bV false)]) (by kernel_rfl) (by rw [h3]) (by kernel_rfl) ?_
            refine ao_some [8, 9, 10, 11, 12, 13, 14] [] [3, 4, 6, 38] tyOK (st1 := mk 47 [(3, pV 3), (4, pV 4), (6, pV 6), (38, bV false)] [(3, [.bx [sC p1.lo, sC p1.hi]]), (4, [.bx [sC ((⟨#[]⟩ : ByteArray)), sC ((⟨#[]⟩ : ByteArray))]]), (6, [.bx [sC (maxS p0.lo p1.lo), sC p0.hi]])]) (by kernel_rfl) ?_
            refine ao_nil ?_
            show mk 47 [(3, pV 3), (4, pV 4), (6, pV 6), (38, bV false)] [(3, [.bx [sC p1.lo, sC p1.hi]]), (4, [.bx [sC ((⟨#[]⟩ : ByteArray)), sC ((⟨#[]⟩ : ByteArray))]]), (6, [.bx [sC (maxS p0.lo p1.lo), sC p0.hi]])] = mk 47 [(3, pV 3), (4, pV 4), (6, pV 6), (38, bV (bif ((p0.hi.toList == ((⟨#[]⟩ : ByteArray)).toList)) then true else (bif (!(p1.hi.toList == ((⟨#[]⟩ : ByteArray)).toList)) then (Op.bytesLess p1.hi.toList p0.hi.toList) else false)))] [(3, [.bx [sC p1.lo, sC p1.hi]]), (4, [.bx [sC ((⟨#[]⟩ : ByteArray)), sC ((⟨#[]⟩ : ByteArray))]]), (6, [.bx [sC (maxS p0.lo p1.lo), sC p0.hi]])]
            first | rfl | (simp only [h2, h3, cond_true, cond_false]) | (simp only [h2, h3, cond_true, cond_false]; rfl)
      obtain ⟨y1, h, ky1⟩ := bndJ_e h
      refine a_joinT (ι := ByteArray) (fun j => mk 47 [(4, pV 4), (6, pV 6)] [(4, [.bx [sC ((⟨#[]⟩ : ByteArray)), sC ((⟨#[]⟩ : ByteArray))]]), (6, [.bx [sC (maxS p0.lo p1.lo), sC j]])]) (fun j => y1 = j) ?_ ?_
      · refine a_cond (b := bif ((p0.hi.toList == ((⟨#[]⟩ : ByteArray)).toList)) then true else (bif (!(p1.hi.toList == ((⟨#[]⟩ : ByteArray)).toList)) then (Op.bytesLess p1.hi.toList p0.hi.toList) else false)) (by kernel_rfl) (fun h2 => ?_) (fun h2 => ?_)
        · replace h := cT h2 h
          refine a_run [4, 6] tyOK (st1 := mk 47 [(4, pV 4), (6, pV 6)] [(4, [.bx [sC ((⟨#[]⟩ : ByteArray)), sC ((⟨#[]⟩ : ByteArray))]]), (6, [.bx [sC (maxS p0.lo p1.lo), sC p1.hi]])]) (by kernel_rfl) ?_
          obtain rfl := Option.some.inj h
          show ∃ _, _ ∧ Imp _ _ _
          refine ⟨_, rfl, ?_⟩
          exact imp_keepTo [4, 6] (by kernel_rfl) (imp_done rfl)
        · replace h := cF h2 h
          refine a_skip ?_
          obtain rfl := Option.some.inj h
          show ∃ _, _ ∧ Imp _ _ _
          refine ⟨_, rfl, ?_⟩
          exact imp_keepTo [4, 6] (by kernel_rfl) (imp_done rfl)
      intro j1 hj1
      replace h := ky1 _ hj1
      refine a_seq ?_
      refine a_seq ?_
      refine a_ops [0, 1, 2] (by kernel_rfl) ?_
      refine ao_some [0] [1, 2] [4, 6, 42] tyOK (st1 := mk 47 [(4, pV 4), (6, pV 6), (42, .agg [.c (sC (maxS p0.lo p1.lo)), .c (sC j1)])] [(4, [.bx [sC ((⟨#[]⟩ : ByteArray)), sC ((⟨#[]⟩ : ByteArray))]]), (6, [.bx [sC (maxS p0.lo p1.lo), sC j1]])]) (by kernel_rfl) ?_
      refine ao_enterM (f := 102) (d := 43) (A := [.agg [.c (sC (maxS p0.lo p1.lo)), .c (sC j1)]]) (l1 := [(4, pV 4), (6, pV 6), (43, bV (i_RangeOk ((⟨maxS p0.lo p1.lo, j1⟩ : Range))))]) (k_i_RangeOk ((⟨maxS p0.lo p1.lo, j1⟩ : Range)) _ rfl) Try.call102 (by kernel_rfl) (by kernel_rfl) (by kernel_rfl) ?_
      refine ao_someM [2] [] tyOK (l1 := [(4, pV 4), (6, pV 6), (44, bV (!(i_RangeOk ((⟨maxS p0.lo p1.lo, j1⟩ : Range)))))]) (by kernel_rfl) ?_
      refine ao_nil ?_
      refine a_cond (b := !(i_RangeOk ((⟨maxS p0.lo p1.lo, j1⟩ : Range)))) (by kernel_rfl) (fun h3 => ?_) (fun h3 => ?_)
      · replace h := cT h3 h
        refine a_seq ?_
        refine a_run [4, 5] tyOK (st1 := mk 47 [(4, pV 4), (5, bV false)] [(4, [.bx [sC ((⟨#[]⟩ : ByteArray)), sC ((⟨#[]⟩ : ByteArray))]])]) (by kernel_rfl) ?_
        refine a_ret ?_
        obtain rfl := Option.some.inj h
        exact end_eq (res' := .tup [.agg [.c (sC ((⟨#[]⟩ : ByteArray))), .c (sC ((⟨#[]⟩ : ByteArray)))], .one (.c (bC false))]) (by kernel_rfl) (by first | rfl | simp)
      · replace h := cF h3 h
        refine a_skip ?_
        refine a_seq ?_
        refine a_run [4, 5] tyOK (st1 := mk 47 [(4, pV 4), (5, bV true)] [(4, [.bx [sC (maxS p0.lo p1.lo), sC j1]])]) (by kernel_rfl) ?_
        refine a_ret ?_
        obtain rfl := Option.some.inj h
        exact end_eq (res' := .tup [.agg [.c (sC (maxS p0.lo p1.lo)), .c (sC j1)], .one (.c (bC true))]) (by kernel_rfl) (by first | rfl | simp)


end Go.Proofs.Ytagoajkiccgmjaa
namespace Go.Proofs.Ytagoajkiccgmjaa
open Go.Mv Go.RowKit
noncomputable def i_clash (p0 : Lock) (p1 : Lock) : Option (Bool) :=
 bif (bif (((p0.tx.c == p1.tx.c) && ((p0.tx.e == p1.tx.e) && ((p0.tx.n == p1.tx.n) && true)))) then true else (bif (!p0.ex) then (!p1.ex) else false)) then
 (some false)
 else
 (bnd (i_RangeBoth p0.range p1.range) fun r1 =>
 some r1.2)
set_option maxHeartbeats 4000000 in
/-- impl.clash -/
theorem k_i_clash (p0 : Lock) (p1 : Lock) (v : Bool) (h : i_clash p0 p1 = some v) : CallOK Try.prog 109 [.agg [.c (iC p0.tx.c), .c (iC p0.tx.e), .c (iC p0.tx.n), .c (sC p0.range.lo), .c (sC p0.range.hi), .c (bC p0.ex)], .agg [.c (iC p1.tx.c), .c (iC p1.tx.e), .c (iC p1.tx.n), .c (sC p1.range.lo), .c (sC p1.range.hi), .c (bC p1.ex)]] (bV v) [] :=
  callOK tyOK Try.func109 rfl fun w S hS => by
    unfold i_clash at h
    refine a_seq ?_
    refine a_run [2, 3] tyOK (st1 := mk 31 [(2, pV 2), (3, pV 3)] [(2, [.bx [iC p0.tx.c, iC p0.tx.e, iC p0.tx.n, sC p0.range.lo, sC p0.range.hi, bC p0.ex]]), (3, [.bx [iC p1.tx.c, iC p1.tx.e, iC p1.tx.n, sC p1.range.lo, sC p1.range.hi, bC p1.ex]])]) (by kernel_rfl) ?_
    refine a_seq ?_
    refine a_seq ?_
    refine a_mid (mk 31 [(2, pV 2), (3, pV 3), (21, bV (bif (((p0.tx.c == p1.tx.c) && ((p0.tx.e == p1.tx.e) && ((p0.tx.n == p1.tx.n) && true)))) then true else (bif (!p0.ex) then (!p1.ex) else false)))] [(2, [.bx [iC p0.tx.c, iC p0.tx.e, iC p0.tx.n, sC p0.range.lo, sC p0.range.hi, bC p0.ex]]), (3, [.bx [iC p1.tx.c, iC p1.tx.e, iC p1.tx.n, sC p1.range.lo, sC p1.range.hi, bC p1.ex]])]) ?_ ?_
    · refine a_ops [0, 1, 2, 3, 4, 5, 6, 7, 8, 9, 10, 11, 12, 13, 14] (by kernel_rfl) ?_
      refine ao_someM [0, 1, 2, 3, 4, 5] [6, 7, 8, 9, 10, 11, 12, 13, 14] tyOK (l1 := [(2, pV 2), (3, pV 3), (12, bV (((p0.tx.c == p1.tx.c) && ((p0.tx.e == p1.tx.e) && ((p0.tx.n == p1.tx.n) && true)))))]) (by kernel_rfl) ?_
      rcases Bool.eq_false_or_eq_true (((p0.tx.c == p1.tx.c) && ((p0.tx.e == p1.tx.e) && ((p0.tx.n == p1.tx.n) && true)))) with h1 | h1
      · refine ao_saysM (k := 12) (t := bV (((p0.tx.c == p1.tx.c) && ((p0.tx.e == p1.tx.e) && ((p0.tx.n == p1.tx.n) && true))))) (t' := bV true) (l1 := [(2, pV 2), (3, pV 3), (12, bV true)]) (by kernel_rfl) (by rw [h1]) (by kernel_rfl) ?_
        refine ao_someM [6, 7, 8, 9, 10, 11, 12, 13, 14] [] tyOK (l1 := [(2, pV 2), (3, pV 3), (21, bV true)]) (by kernel_rfl) ?_
        refine ao_nil ?_
        show mk 31 [(2, pV 2), (3, pV 3), (21, bV true)] [(2, [.bx [iC p0.tx.c, iC p0.tx.e, iC p0.tx.n, sC p0.range.lo, sC p0.range.hi, bC p0.ex]]), (3, [.bx [iC p1.tx.c, iC p1.tx.e, iC p1.tx.n, sC p1.range.lo, sC p1.range.hi, bC p1.ex]])] = mk 31 [(2, pV 2), (3, pV 3), (21, bV (bif (((p0.tx.c == p1.tx.c) && ((p0.tx.e == p1.tx.e) && ((p0.tx.n == p1.tx.n) && true)))) then true else (bif (!p0.ex) then (!p1.ex) else false)))] [(2, [.bx [iC p0.tx.c, iC p0.tx.e, iC p0.tx.n, sC p0.range.lo, sC p0.range.hi, bC p0.ex]]), (3, [.bx [iC p1.tx.c, iC p1.tx.e, iC p1.tx.n, sC p1.range.lo, sC p1.range.hi, bC p1.ex]])]
        first | rfl | (simp only [h1, cond_true, cond_false]) | (simp only [h1, cond_true, cond_false]; rfl)
      · refine ao_saysM (k := 12) (t := bV (((p0.tx.c == p1.tx.c) && ((p0.tx.e == p1.tx.e) && ((p0.tx.n == p1.tx.n) && true))))) (t' := bV false) (l1 := [(2, pV 2), (3, pV 3), (12, bV false)]) (by kernel_rfl) (by rw [h1]) (by kernel_rfl) ?_
        refine ao_someM [6, 7, 8, 9] [10, 11, 12, 13, 14] tyOK (l1 := [(2, pV 2), (3, pV 3), (12, bV false), (16, bV (!p0.ex))]) (by kernel_rfl) ?_
        rcases Bool.eq_false_or_eq_true (!p0.ex) with h2 | h2
        · refine ao_saysM (k := 16) (t := bV (!p0.ex)) (t' := bV true) (l1 := [(2, pV 2), (3, pV 3), (12, bV false), (16, bV true)]) (by kernel_rfl) (by rw [h2]) (by kernel_rfl) ?_
          refine ao_someM [10, 11, 12, 13, 14] [] tyOK (l1 := [(2, pV 2), (3, pV 3), (21, bV (!p1.ex))]) (by kernel_rfl) ?_
          refine ao_nil ?_
          show mk 31 [(2, pV 2), (3, pV 3), (21, bV (!p1.ex))] [(2, [.bx [iC p0.tx.c, iC p0.tx.e, iC p0.tx.n, sC p0.range.lo, sC p0.range.hi, bC p0.ex]]), (3, [.bx [iC p1.tx.c, iC p1.tx.e, iC p1.tx.n, sC p1.range.lo, sC p1.range.hi, bC p1.ex]])] = mk 31 [(2, pV 2), (3, pV 3), (21, bV (bif (((p0.tx.c == p1.tx.c) && ((p0.tx.e == p1.tx.e) && ((p0.tx.n == p1.tx.n) && true)))) then true else (bif (!p0.ex) then (!p1.ex) else false)))] [(2, [.bx [iC p0.tx.c, iC p0.tx.e, iC p0.tx.n, sC p0.range.lo, sC p0.range.hi, bC p0.ex]]), (3, [.bx [iC p1.tx.c, iC p1.tx.e, iC p1.tx.n, sC p1.range.lo, sC p1.range.hi, bC p1.ex]])]
          first | rfl | (simp only [h1, h2, cond_true, cond_false]) | (simp only [h1, h2, cond_true, cond_false]; rfl)
        · refine ao_saysM (k := 16) (t := bV (!p0.ex)) (t' := bV false) (l1 := [(2, pV 2), (3, pV 3), (12, bV false), (16, bV false)]) (by kernel_rfl) (by rw [h2]) (by kernel_rfl) ?_
          refine ao_someM [10, 11, 12, 13, 14] [] tyOK (l1 := [(2, pV 2), (3, pV 3), (21, bV false)]) (by kernel_rfl) ?_
          refine ao_nil ?_
          show mk 31 [(2, pV 2), (3, pV 3), (21, bV false)] [(2, [.bx [iC p0.tx.c, iC p0.tx.e, iC p0.tx.n, sC p0.range.lo, sC p0.range.hi, bC p0.ex]]), (3, [.bx [iC p1.tx.c, iC p1.tx.e, iC p1.tx.n, sC p1.range.lo, sC p1.range.hi, bC p1.ex]])] = mk 31 [(2, pV 2), (3, pV 3), (21, bV (bif (((p0.tx.c == p1.tx.c) && ((p0.tx.e == p1.tx.e) && ((p0.tx.n == p1.tx.n) && true)))) then true else (bif (!p0.ex) then (!p1.ex) else false)))] [(2, [.bx [iC p0.tx.c, iC p0.tx.e, iC p0.tx.n, sC p0.range.lo, sC p0.range.hi, bC p0.ex]]), (3, [.bx [iC p1.tx.c, iC p1.tx.e, iC p1.tx.n, sC p1.range.lo, sC p1.range.hi, bC p1.ex]])]
          first | rfl | (simp only [h1, h2, cond_true, cond_false]) | (simp only [h1, h2, cond_true, cond_false]; rfl)
    refine a_cond (b := bif (((p0.tx.c == p1.tx.c) && ((p0.tx.e == p1.tx.e) && ((p0.tx.n == p1.tx.n) && true)))) then true else (bif (!p0.ex) then (!p1.ex) else false)) (by kernel_rfl) (fun h1 => ?_) (fun h1 => ?_)
    · replace h := cT h1 h
      refine a_seq ?_
      refine a_run [4] tyOK (st1 := mk 31 [(4, bV false)] []) (by kernel_rfl) ?_
      refine a_ret ?_
      obtain rfl := Option.some.inj h
      exact end_eq (res' := bV false) (by kernel_rfl) (by first | rfl | simp)
    · replace h := cF h1 h
      refine a_skip ?_
      refine a_seq ?_
      refine a_ops [0, 1, 2, 3, 4, 5, 6, 7, 8, 9, 10] (by kernel_rfl) ?_
      refine ao_some [0, 1, 2, 3] [4, 5, 6, 7, 8, 9, 10] [24, 26] tyOK (st1 := mk 31 [(24, .agg [.c (sC p0.range.lo), .c (sC p0.range.hi)]), (26, .agg [.c (sC p1.range.lo), .c (sC p1.range.hi)])] []) (by kernel_rfl) ?_
      obtain ⟨r1, er1, h⟩ := bnd_e h
      refine ao_enterM (f := 132) (d := 27) (A := [.agg [.c (sC p0.range.lo), .c (sC p0.range.hi)], .agg [.c (sC p1.range.lo), .c (sC p1.range.hi)]]) (l1 := [(27, .tup [.agg [.c (sC r1.1.lo), .c (sC r1.1.hi)], .one (.c (bC r1.2))])]) (k_i_RangeBoth p0.range p1.range r1 er1) Try.call132 (by kernel_rfl) (by kernel_rfl) (by kernel_rfl) ?_
      refine ao_someM [5, 6, 7, 8, 9, 10] [] tyOK (l1 := [(6, bV r1.2)]) (by kernel_rfl) ?_
      refine ao_nil ?_
      refine a_seq ?_
      refine a_runM tyOK (l1 := [(4, bV r1.2)]) (by kernel_rfl) ?_
      refine a_ret ?_
      obtain rfl := Option.some.inj h
      exact end_eq (res' := bV r1.2) (by kernel_rfl) (by first | rfl | simp)

noncomputable def i_isFree_c1 (p0 : Lock) (q0 : Lock) : Option (Bool) :=
 bnd (i_clash q0 p0) fun r1 =>
 some r1
set_option maxHeartbeats 4000000 in
/-- impl.isFree$1 -/
theorem k_i_isFree_c1 (p0 : Lock) (q0 : Lock) (v : Bool) (h : i_isFree_c1 p0 q0 = some v) : CallOK Try.prog 108 [.agg [.c (iC p0.tx.c), .c (iC p0.tx.e), .c (iC p0.tx.n), .c (sC p0.range.lo), .c (sC p0.range.hi), .c (bC p0.ex)], .one (.c (.bx [iC q0.tx.c, iC q0.tx.e, iC q0.tx.n, sC q0.range.lo, sC q0.range.hi, bC q0.ex]))] (bV v) [] :=
  callOK tyOK Try.func108 rfl fun w S hS => by
    unfold i_isFree_c1 at h
    refine a_seq ?_
    refine a_run [1, 2] tyOK (st1 := mk 7 [(1, .one (.c (.bx [iC q0.tx.c, iC q0.tx.e, iC q0.tx.n, sC q0.range.lo, sC q0.range.hi, bC q0.ex]))), (2, pV 2)] [(2, [.bx [iC p0.tx.c, iC p0.tx.e, iC p0.tx.n, sC p0.range.lo, sC p0.range.hi, bC p0.ex]])]) (by kernel_rfl) ?_
    refine a_seq ?_
    refine a_ops [0, 1, 2, 3] (by kernel_rfl) ?_
    refine ao_some [0, 1] [2, 3] [4, 5] tyOK (st1 := mk 7 [(4, .agg [.c (iC q0.tx.c), .c (iC q0.tx.e), .c (iC q0.tx.n), .c (sC q0.range.lo), .c (sC q0.range.hi), .c (bC q0.ex)]), (5, .agg [.c (iC p0.tx.c), .c (iC p0.tx.e), .c (iC p0.tx.n), .c (sC p0.range.lo), .c (sC p0.range.hi), .c (bC p0.ex)])] []) (by kernel_rfl) ?_
    obtain ⟨r1, er1, h⟩ := bnd_e h
    refine ao_enterM (f := 109) (d := 6) (A := [.agg [.c (iC q0.tx.c), .c (iC q0.tx.e), .c (iC q0.tx.n), .c (sC q0.range.lo), .c (sC q0.range.hi), .c (bC q0.ex)], .agg [.c (iC p0.tx.c), .c (iC p0.tx.e), .c (iC p0.tx.n), .c (sC p0.range.lo), .c (sC p0.range.hi), .c (bC p0.ex)]]) (l1 := [(6, bV r1)]) (k_i_clash q0 p0 r1 er1) Try.call109 (by kernel_rfl) (by kernel_rfl) (by kernel_rfl) ?_
    refine ao_someM [3] [] tyOK (l1 := [(3, bV r1)]) (by kernel_rfl) ?_
    refine ao_nil ?_
    refine a_ret ?_
    obtain rfl := Option.some.inj h
    exact end_eq (res' := bV r1) (by kernel_rfl) (by first | rfl | simp)

noncomputable def Bsl_IndexFunc_Lock_i_isFree_c1_1 (p0 : (List Lock)) (q0 : Lock) (s1 : Int) : Option (Int ⊕ (Unit ⊕ (Int))) :=
 bif (decide (s1 < (((((p0).map eLock).length : Nat) : Int)))) then
 (bnd (getI p0 s1) fun x1 =>
 bnd (i_isFree_c1 x1 q0) fun r1 =>
 bif r1 then
 (some (.inr (.inr s1)))
 else
 (some (.inl (IntKind.wrap .i64 (s1 + 1)))))
 else
 (some (.inr (.inl (()))))

noncomputable def sl_IndexFunc_Lock_i_isFree_c1 (p0 : (List Lock)) (q0 : Lock) : Option (Int) :=
 bndS (loopT (Bsl_IndexFunc_Lock_i_isFree_c1_1 p0 q0) 0) fun j1 =>
 some (-1)
set_option maxHeartbeats 4000000 in
/-- slices.IndexFunc[[]impl.Lock,impl.Lock] -/
theorem k_sl_IndexFunc_Lock_i_isFree_c1 (p0 : (List Lock)) (q0 : Lock) (v : Int) (h : sl_IndexFunc_Lock_i_isFree_c1 p0 q0 = some v) : CallOK Try.prog 131 [lV 6 eLock p0, .one (.c (.fn 108 [.bx [iC q0.tx.c, iC q0.tx.e, iC q0.tx.n, sC q0.range.lo, sC q0.range.hi, bC q0.ex]]))] (iV v) [] :=
  callOK tyOK Try.func131 rfl fun w S hS => by
    unfold sl_IndexFunc_Lock_i_isFree_c1 at h
    refine a_seq ?_
    refine a_run [0, 1] tyOK (st1 := mk 19 [(0, lV 6 eLock p0), (1, .one (.c (.fn 108 [.bx [iC q0.tx.c, iC q0.tx.e, iC q0.tx.n, sC q0.range.lo, sC q0.range.hi, bC q0.ex]])))] []) (by kernel_rfl) ?_
    refine a_seq ?_
    refine a_seq ?_
    refine a_runM tyOK (l1 := [(0, lV 6 eLock p0), (1, .one (.c (.fn 108 [.bx [iC q0.tx.c, iC q0.tx.e, iC q0.tx.n, sC q0.range.lo, sC q0.range.hi, bC q0.ex]]))), (7, iV (((((p0).map eLock).length : Nat) : Int))), (8, iV 0)]) (by kernel_rfl) ?_
    obtain ⟨y1, h, ky1, zy1⟩ := bndS_e h
    refine a_joinT (ι := Unit) (fun j => mk 19 [] []) (fun j => y1 = .inl j) ?_ ?_
    · refine a_block ?_
      refine a_loopT (Bsl_IndexFunc_Lock_i_isFree_c1_1 p0 q0) (fun s1 => mk 19 [(0, lV 6 eLock p0), (1, .one (.c (.fn 108 [.bx [iC q0.tx.c, iC q0.tx.e, iC q0.tx.n, sC q0.range.lo, sC q0.range.hi, bC q0.ex]]))), (7, iV (((((p0).map eLock).length : Nat) : Int))), (8, iV s1)] []) 0 h ?_ ?_
      · exact imp_keepTo [0, 1, 7, 8] (by kernel_rfl) (imp_done rfl)
      intro s1 y2 h zy2
      unfold Bsl_IndexFunc_Lock_i_isFree_c1_1 at h
      refine a_seq ?_
      refine a_run [0, 1, 7, 8, 9] tyOK (st1 := mk 19 [(0, lV 6 eLock p0), (1, .one (.c (.fn 108 [.bx [iC q0.tx.c, iC q0.tx.e, iC q0.tx.n, sC q0.range.lo, sC q0.range.hi, bC q0.ex]]))), (7, iV (((((p0).map eLock).length : Nat) : Int))), (8, iV s1), (9, bV (decide (s1 < (((((p0).map eLock).length : Nat) : Int)))))] []) (by kernel_rfl) ?_
      refine a_seq ?_
      refine a_cond (b := decide (s1 < (((((p0).map eLock).length : Nat) : Int)))) (by kernel_rfl) (fun h1 => ?_) (fun h1 => ?_)
      · replace h := cT h1 h
        refine a_skip ?_
        refine a_seq ?_
        refine a_block ?_
        refine a_seq ?_
        refine a_run [0, 1, 5, 7, 8] tyOK (st1 := mk 19 [(0, lV 6 eLock p0), (1, .one (.c (.fn 108 [.bx [iC q0.tx.c, iC q0.tx.e, iC q0.tx.n, sC q0.range.lo, sC q0.range.hi, bC q0.ex]]))), (5, iV s1), (7, iV (((((p0).map eLock).length : Nat) : Int))), (8, iV s1)] []) (by kernel_rfl) ?_
        refine a_seq ?_
        refine a_ops [0, 1, 2, 3, 4, 5] (by kernel_rfl) ?_
        refine ao_someM [0, 1, 2] [3, 4, 5] tyOK (l1 := [(0, lV 6 eLock p0), (1, .one (.c (.fn 108 [.bx [iC q0.tx.c, iC q0.tx.e, iC q0.tx.n, sC q0.range.lo, sC q0.range.hi, bC q0.ex]]))), (5, iV s1), (7, iV (((((p0).map eLock).length : Nat) : Int))), (8, iV s1), (11, .one (.c (.fn 108 [.bx [iC q0.tx.c, iC q0.tx.e, iC q0.tx.n, sC q0.range.lo, sC q0.range.hi, bC q0.ex]]))), (12, lV 6 eLock p0), (13, iV s1)]) (by kernel_rfl) ?_
        obtain ⟨x1, ex1, h⟩ := bnd_e h
        refine ao_indexM (d := 14) (size := 6) (n := s1) (rows := (p0).map eLock) (l1 := [(0, lV 6 eLock p0), (1, .one (.c (.fn 108 [.bx [iC q0.tx.c, iC q0.tx.e, iC q0.tx.n, sC q0.range.lo, sC q0.range.hi, bC q0.ex]]))), (5, iV s1), (7, iV (((((p0).map eLock).length : Nat) : Int))), (8, iV s1), (11, .one (.c (.fn 108 [.bx [iC q0.tx.c, iC q0.tx.e, iC q0.tx.n, sC q0.range.lo, sC q0.range.hi, bC q0.ex]]))), (14, .one (.fp [iC x1.tx.c, iC x1.tx.e, iC x1.tx.n, sC x1.range.lo, sC x1.range.hi, bC x1.ex] 0))]) (eLock x1) tyOK (by kernel_rfl) (getI_e ex1).1 (show ((p0).map eLock)[_]? = some _ from by rw [List.getElem?_map, (getI_e ex1).2]; rfl) (by kernel_rfl) (by kernel_rfl) ?_
        refine ao_some [4] [5] [0, 1, 5, 7, 8, 11, 15] tyOK (st1 := mk 19 [(0, lV 6 eLock p0), (1, .one (.c (.fn 108 [.bx [iC q0.tx.c, iC q0.tx.e, iC q0.tx.n, sC q0.range.lo, sC q0.range.hi, bC q0.ex]]))), (5, iV s1), (7, iV (((((p0).map eLock).length : Nat) : Int))), (8, iV s1), (11, .one (.c (.fn 108 [.bx [iC q0.tx.c, iC q0.tx.e, iC q0.tx.n, sC q0.range.lo, sC q0.range.hi, bC q0.ex]]))), (15, .agg [.c (iC x1.tx.c), .c (iC x1.tx.e), .c (iC x1.tx.n), .c (sC x1.range.lo), .c (sC x1.range.hi), .c (bC x1.ex)])] []) (by kernel_rfl) ?_
        obtain ⟨r1, er1, h⟩ := bnd_e h
        refine ao_callv (f := 108) (d := 16) (A := [.agg [.c (iC x1.tx.c), .c (iC x1.tx.e), .c (iC x1.tx.n), .c (sC x1.range.lo), .c (sC x1.range.hi), .c (bC x1.ex)], .one (.c (.bx [iC q0.tx.c, iC q0.tx.e, iC q0.tx.n, sC q0.range.lo, sC q0.range.hi, bC q0.ex]))]) (A' := [.agg [.c (iC x1.tx.c), .c (iC x1.tx.e), .c (iC x1.tx.n), .c (sC x1.range.lo), .c (sC x1.range.hi), .c (bC x1.ex)], .one (.c (.bx [iC q0.tx.c, iC q0.tx.e, iC q0.tx.n, sC q0.range.lo, sC q0.range.hi, bC q0.ex]))]) (st1 := mk 19 [(0, lV 6 eLock p0), (1, .one (.c (.fn 108 [.bx [iC q0.tx.c, iC q0.tx.e, iC q0.tx.n, sC q0.range.lo, sC q0.range.hi, bC q0.ex]]))), (5, iV s1), (7, iV (((((p0).map eLock).length : Nat) : Int))), (8, iV s1), (16, bV r1)] []) [0, 1, 5, 7, 8, 16] (k_i_isFree_c1 x1 q0 r1 er1) Try.call108 (by kernel_rfl) (.cons (.agg (.cons (.same rfl) (.cons (.same rfl) (.cons (.same rfl) (.cons (.same rfl) (.cons (.same rfl) (.cons (.same rfl) .nil))))))) (.cons (.one (.same rfl)) .nil)) rfl (clean_nil) (by kernel_rfl) (by kernel_rfl) ?_
        refine ao_nil ?_
        refine a_cond (b := r1) (by kernel_rfl) (fun h2 => ?_) (fun h2 => ?_)
        · replace h := cT h2 h
          refine a_seq ?_
          refine a_runM tyOK (l1 := [(4, iV s1)]) (by kernel_rfl) ?_
          refine a_ret ?_
          obtain rfl := Option.some.inj h
          obtain rfl := zy2 _ rfl
          obtain rfl := zy1 _ rfl
          exact end_eq (res' := iV s1) (by kernel_rfl) (by first | rfl | simp)
        · replace h := cF h2 h
          refine a_skip ?_
          refine a_runM tyOK (l1 := [(0, lV 6 eLock p0), (1, .one (.c (.fn 108 [.bx [iC q0.tx.c, iC q0.tx.e, iC q0.tx.n, sC q0.range.lo, sC q0.range.hi, bC q0.ex]]))), (7, iV (((((p0).map eLock).length : Nat) : Int))), (8, iV (IntKind.wrap .i64 (s1 + 1)))]) (by kernel_rfl) ?_
          obtain rfl := Option.some.inj h
          show ∃ _, _ ∧ Imp _ _ _
          refine ⟨_, rfl, ?_⟩
          exact imp_keepTo [0, 1, 7, 8] (by kernel_rfl) (imp_done rfl)
      · replace h := cF h1 h
        refine a_exit ?_
        obtain rfl := Option.some.inj h
        obtain rfl := zy2 _ rfl
        show ∃ _, _ ∧ Imp _ _ _
        refine ⟨_, rfl, ?_⟩
        exact imp_keepTo [] (by kernel_rfl) (imp_done rfl)
    intro j1 hj1
    replace h := ky1 _ hj1
    refine a_seq ?_
    refine a_run [4] tyOK (st1 := mk 19 [(4, iV (-1))] []) (by kernel_rfl) ?_
    refine a_ret ?_
    obtain rfl := Option.some.inj h
    exact end_eq (res' := iV (-1)) (by kernel_rfl) (by first | rfl | simp)
noncomputable def sl_ContainsFunc_Lock_i_isFree_c1 (p0 : (List Lock)) (q0 : Lock) : Option (Bool) :=
 bnd (sl_IndexFunc_Lock_i_isFree_c1 p0 q0) fun r1 =>
 some (decide (r1 ≥ 0))
set_option maxHeartbeats 4000000 in
/-- slices.ContainsFunc[[]impl.Lock,impl.Lock] -/
theorem k_sl_ContainsFunc_Lock_i_isFree_c1 (p0 : (List Lock)) (q0 : Lock) (v : Bool) (h : sl_ContainsFunc_Lock_i_isFree_c1 p0 q0 = some v) : CallOK Try.prog 107 [lV 6 eLock p0, .one (.c (.fn 108 [.bx [iC q0.tx.c, iC q0.tx.e, iC q0.tx.n, sC q0.range.lo, sC q0.range.hi, bC q0.ex]]))] (bV v) [] :=
  callOK tyOK Try.func107 rfl fun w S hS => by
    unfold sl_ContainsFunc_Lock_i_isFree_c1 at h
    refine a_seq ?_
    refine a_run [0, 1] tyOK (st1 := mk 9 [(0, lV 6 eLock p0), (1, .one (.c (.fn 108 [.bx [iC q0.tx.c, iC q0.tx.e, iC q0.tx.n, sC q0.range.lo, sC q0.range.hi, bC q0.ex]])))] []) (by kernel_rfl) ?_
    refine a_seq ?_
    refine a_ops [0, 1, 2, 3, 4] (by kernel_rfl) ?_
    refine ao_someM [0, 1] [2, 3, 4] tyOK (l1 := [(5, lV 6 eLock p0), (6, .one (.c (.fn 108 [.bx [iC q0.tx.c, iC q0.tx.e, iC q0.tx.n, sC q0.range.lo, sC q0.range.hi, bC q0.ex]])))]) (by kernel_rfl) ?_
    obtain ⟨r1, er1, h⟩ := bnd_e h
    refine ao_enterM (f := 131) (d := 7) (A := [lV 6 eLock p0, .one (.c (.fn 108 [.bx [iC q0.tx.c, iC q0.tx.e, iC q0.tx.n, sC q0.range.lo, sC q0.range.hi, bC q0.ex]]))]) (l1 := [(7, iV r1)]) (k_sl_IndexFunc_Lock_i_isFree_c1 p0 q0 r1 er1) Try.call131 (by kernel_rfl) (by kernel_rfl) (by kernel_rfl) ?_
    refine ao_someM [3, 4] [] tyOK (l1 := [(4, bV (decide (r1 ≥ 0)))]) (by kernel_rfl) ?_
    refine ao_nil ?_
    refine a_ret ?_
    obtain rfl := Option.some.inj h
    exact end_eq (res' := bV (decide (r1 ≥ 0))) (by kernel_rfl) (by first | rfl | simp)
noncomputable def Bi_isFree_1 (p0 : Lock) (p1 : (List (List Lock))) (s1 : Int) : Option (Int ⊕ (Unit ⊕ (Bool))) :=
 bif (decide (s1 < (((((p1).map (eSl 6 eLock)).length : Nat) : Int)))) then
 (bnd (getI p1 s1) fun x1 =>
 bnd (sl_ContainsFunc_Lock_i_isFree_c1 x1 p0) fun r1 =>
 bif r1 then
 (some (.inr (.inr false)))
 else
 (some (.inl (IntKind.wrap .i64 (s1 + 1)))))
 else
 (some (.inr (.inl (()))))

noncomputable def i_isFree (p0 : Lock) (p1 : (List (List Lock))) : Option (Bool) :=
 bndS (loopT (Bi_isFree_1 p0 p1) 0) fun j1 =>
 some true
set_option maxHeartbeats 4000000 in
/-- impl.isFree -/
theorem k_i_isFree (p0 : Lock) (p1 : (List (List Lock))) (v : Bool) (h : i_isFree p0 p1 = some v) : CallOK Try.prog 67 [.agg [.c (iC p0.tx.c), .c (iC p0.tx.e), .c (iC p0.tx.n), .c (sC p0.range.lo), .c (sC p0.range.hi), .c (bC p0.ex)], lV 1 (eSl 6 eLock) p1] (bV v) [] :=
  callOK tyOK Try.func67 rfl fun w S hS => by
    unfold i_isFree at h
    refine a_seq ?_
    refine a_run [1, 2] tyOK (st1 := mk 17 [(1, lV 1 (eSl 6 eLock) p1), (2, pV 2)] [(2, [.bx [iC p0.tx.c, iC p0.tx.e, iC p0.tx.n, sC p0.range.lo, sC p0.range.hi, bC p0.ex]])]) (by kernel_rfl) ?_
    refine a_seq ?_
    refine a_seq ?_
    refine a_runM tyOK (l1 := [(2, pV 2), (7, lV 1 (eSl 6 eLock) p1), (8, iV (((((p1).map (eSl 6 eLock)).length : Nat) : Int))), (9, iV 0)]) (by kernel_rfl) ?_
    obtain ⟨y1, h, ky1, zy1⟩ := bndS_e h
    refine a_joinT (ι := Unit) (fun j => mk 17 [] []) (fun j => y1 = .inl j) ?_ ?_
    · refine a_block ?_
      refine a_loopT (Bi_isFree_1 p0 p1) (fun s1 => mk 17 [(2, .one (.c (.bx [iC p0.tx.c, iC p0.tx.e, iC p0.tx.n, sC p0.range.lo, sC p0.range.hi, bC p0.ex]))), (7, lV 1 (eSl 6 eLock) p1), (8, iV (((((p1).map (eSl 6 eLock)).length : Nat) : Int))), (9, iV s1)] []) 0 h ?_ ?_
      · refine imp_freeze (fun _ _ h => h) [] 2 0 [2, 7, 8, 9] (s1 := mk 17 [(2, .one (.c (.bx [iC p0.tx.c, iC p0.tx.e, iC p0.tx.n, sC p0.range.lo, sC p0.range.hi, bC p0.ex]))), (7, lV 1 (eSl 6 eLock) p1), (8, iV (((((p1).map (eSl 6 eLock)).length : Nat) : Int))), (9, iV 0)] []) (by kernel_rfl) ?_
        exact imp_keepTo [2, 7, 8, 9] (by kernel_rfl) (imp_done rfl)
      intro s1 y2 h zy2
      unfold Bi_isFree_1 at h
      refine a_seq ?_
      refine a_run [2, 7, 8, 9, 10] tyOK (st1 := mk 17 [(2, .one (.c (.bx [iC p0.tx.c, iC p0.tx.e, iC p0.tx.n, sC p0.range.lo, sC p0.range.hi, bC p0.ex]))), (7, lV 1 (eSl 6 eLock) p1), (8, iV (((((p1).map (eSl 6 eLock)).length : Nat) : Int))), (9, iV s1), (10, bV (decide (s1 < (((((p1).map (eSl 6 eLock)).length : Nat) : Int)))))] []) (by kernel_rfl) ?_
      refine a_seq ?_
      refine a_cond (b := decide (s1 < (((((p1).map (eSl 6 eLock)).length : Nat) : Int)))) (by kernel_rfl) (fun h1 => ?_) (fun h1 => ?_)
      · replace h := cT h1 h
        refine a_skip ?_
        refine a_seq ?_
        refine a_block ?_
        refine a_seq ?_
        refine a_ops [0, 1, 2] (by kernel_rfl) ?_
        obtain ⟨x1, ex1, h⟩ := bnd_e h
        refine ao_index (d := 11) (size := 1) (n := s1) (rows := (p1).map (eSl 6 eLock)) (st1 := mk 17 [(2, .one (.c (.bx [iC p0.tx.c, iC p0.tx.e, iC p0.tx.n, sC p0.range.lo, sC p0.range.hi, bC p0.ex]))), (7, lV 1 (eSl 6 eLock) p1), (8, iV (((((p1).map (eSl 6 eLock)).length : Nat) : Int))), (9, iV s1), (11, .one (.fp [lC 6 eLock x1] 0))] []) ((eSl 6 eLock) x1) [2, 7, 8, 9, 11] tyOK (by kernel_rfl) (getI_e ex1).1 (show ((p1).map (eSl 6 eLock))[_]? = some _ from by rw [List.getElem?_map, (getI_e ex1).2]; rfl) (by kernel_rfl) (by kernel_rfl) ?_
        refine ao_some [1, 2] [] [2, 6, 7, 8, 9] tyOK (st1 := mk 17 [(2, .one (.c (.bx [iC p0.tx.c, iC p0.tx.e, iC p0.tx.n, sC p0.range.lo, sC p0.range.hi, bC p0.ex]))), (6, lV 6 eLock x1), (7, lV 1 (eSl 6 eLock) p1), (8, iV (((((p1).map (eSl 6 eLock)).length : Nat) : Int))), (9, iV s1)] []) (by kernel_rfl) ?_
        refine ao_nil ?_
        refine a_seq ?_
        refine a_ops [0, 1, 2] (by kernel_rfl) ?_
        refine ao_someM [0] [1, 2] tyOK (l1 := [(2, .one (.c (.bx [iC p0.tx.c, iC p0.tx.e, iC p0.tx.n, sC p0.range.lo, sC p0.range.hi, bC p0.ex]))), (7, lV 1 (eSl 6 eLock) p1), (8, iV (((((p1).map (eSl 6 eLock)).length : Nat) : Int))), (9, iV s1), (13, lV 6 eLock x1)]) (by kernel_rfl) ?_
        refine ao_fn (d := 14) (f := 108) (cs := [.bx [iC p0.tx.c, iC p0.tx.e, iC p0.tx.n, sC p0.range.lo, sC p0.range.hi, bC p0.ex]]) (st1 := mk 17 [(2, .one (.c (.bx [iC p0.tx.c, iC p0.tx.e, iC p0.tx.n, sC p0.range.lo, sC p0.range.hi, bC p0.ex]))), (7, lV 1 (eSl 6 eLock) p1), (8, iV (((((p1).map (eSl 6 eLock)).length : Nat) : Int))), (9, iV s1), (13, lV 6 eLock x1), (14, .one (.c (.fn 108 [.bx [iC p0.tx.c, iC p0.tx.e, iC p0.tx.n, sC p0.range.lo, sC p0.range.hi, bC p0.ex]])))] []) [2, 7, 8, 9, 13, 14] (by kernel_rfl) (by kernel_rfl) ?_
        obtain ⟨r1, er1, h⟩ := bnd_e h
        refine ao_enterM (f := 107) (d := 15) (A := [lV 6 eLock x1, .one (.c (.fn 108 [.bx [iC p0.tx.c, iC p0.tx.e, iC p0.tx.n, sC p0.range.lo, sC p0.range.hi, bC p0.ex]]))]) (l1 := [(2, .one (.c (.bx [iC p0.tx.c, iC p0.tx.e, iC p0.tx.n, sC p0.range.lo, sC p0.range.hi, bC p0.ex]))), (7, lV 1 (eSl 6 eLock) p1), (8, iV (((((p1).map (eSl 6 eLock)).length : Nat) : Int))), (9, iV s1), (15, bV r1)]) (k_sl_ContainsFunc_Lock_i_isFree_c1 x1 p0 r1 er1) Try.call107 (by kernel_rfl) (by kernel_rfl) (by kernel_rfl) ?_
        refine ao_nil ?_
        refine a_cond (b := r1) (by kernel_rfl) (fun h2 => ?_) (fun h2 => ?_)
        · replace h := cT h2 h
          refine a_seq ?_
          refine a_runM tyOK (l1 := [(4, bV false)]) (by kernel_rfl) ?_
          refine a_ret ?_
          obtain rfl := Option.some.inj h
          obtain rfl := zy2 _ rfl
          obtain rfl := zy1 _ rfl
          exact end_eq (res' := bV false) (by kernel_rfl) (by first | rfl | simp)
        · replace h := cF h2 h
          refine a_skip ?_
          refine a_runM tyOK (l1 := [(2, .one (.c (.bx [iC p0.tx.c, iC p0.tx.e, iC p0.tx.n, sC p0.range.lo, sC p0.range.hi, bC p0.ex]))), (7, lV 1 (eSl 6 eLock) p1), (8, iV (((((p1).map (eSl 6 eLock)).length : Nat) : Int))), (9, iV (IntKind.wrap .i64 (s1 + 1)))]) (by kernel_rfl) ?_
          obtain rfl := Option.some.inj h
          show ∃ _, _ ∧ Imp _ _ _
          refine ⟨_, rfl, ?_⟩
          exact imp_keepTo [2, 7, 8, 9] (by kernel_rfl) (imp_done rfl)
      · replace h := cF h1 h
        refine a_exit ?_
        obtain rfl := Option.some.inj h
        obtain rfl := zy2 _ rfl
        show ∃ _, _ ∧ Imp _ _ _
        refine ⟨_, rfl, ?_⟩
        exact imp_keepTo [] (by kernel_rfl) (imp_done rfl)
    intro j1 hj1
    replace h := ky1 _ hj1
    refine a_seq ?_
    refine a_run [4] tyOK (st1 := mk 17 [(4, bV true)] []) (by kernel_rfl) ?_
    refine a_ret ?_
    obtain rfl := Option.some.inj h
    exact end_eq (res' := bV true) (by kernel_rfl) (by first | rfl | simp)

noncomputable def i_Locks_waits_c1 (p0 : Lock) (q0 : Tx) : Bool :=
 ((p0.tx.c == q0.c) && ((p0.tx.e == q0.e) && ((p0.tx.n == q0.n) && true)))
set_option maxHeartbeats 4000000 in
/-- (*impl.Locks).waits$1 -/
theorem k_i_Locks_waits_c1 (p0 : Lock) (q0 : Tx) (v : Bool) (h : i_Locks_waits_c1 p0 q0 = v) : CallOK Try.prog 110 [.agg [.c (iC p0.tx.c), .c (iC p0.tx.e), .c (iC p0.tx.n), .c (sC p0.range.lo), .c (sC p0.range.hi), .c (bC p0.ex)], .one (.c (.bx [iC q0.c, iC q0.e, iC q0.n]))] (bV v) [] :=
  callOK tyOK Try.func110 rfl fun w S hS => by
    unfold i_Locks_waits_c1 at h
    refine a_seq ?_
    refine a_run [1, 2] tyOK (st1 := mk 8 [(1, .one (.c (.bx [iC q0.c, iC q0.e, iC q0.n]))), (2, pV 2)] [(2, [.bx [iC p0.tx.c, iC p0.tx.e, iC p0.tx.n, sC p0.range.lo, sC p0.range.hi, bC p0.ex]])]) (by kernel_rfl) ?_
    refine a_seq ?_
    refine a_run [3] tyOK (st1 := mk 8 [(3, bV (((p0.tx.c == q0.c) && ((p0.tx.e == q0.e) && ((p0.tx.n == q0.n) && true)))))] []) (by kernel_rfl) ?_
    refine a_ret ?_
    obtain rfl := h
    exact end_eq (res' := bV (((p0.tx.c == q0.c) && ((p0.tx.e == q0.e) && ((p0.tx.n == q0.n) && true))))) (by kernel_rfl) (by first | rfl | simp)


end Go.Proofs.Ytagoajkiccgmjaa
namespace Go.Proofs.Ytagoajkiccgmjaa
open Go.Mv Go.RowKit
noncomputable def Bsl_IndexFunc_Lock_i_Locks_waits_c1_1 (p0 : (List Lock)) (q0 : Tx) (s1 : Int) : Option (Int ⊕ (Unit ⊕ (Int))) :=
 bif (decide (s1 < (((((p0).map eLock).length : Nat) : Int)))) then
 (bnd (getI p0 s1) fun x1 =>
 bif (i_Locks_waits_c1 x1 q0) then
 (some (.inr (.inr s1)))
 else
 (some (.inl (IntKind.wrap .i64 (s1 + 1)))))
 else
 (some (.inr (.inl (()))))

noncomputable def sl_IndexFunc_Lock_i_Locks_waits_c1 (p0 : (List Lock)) (q0 : Tx) : Option (Int) :=
 bndS (loopT (Bsl_IndexFunc_Lock_i_Locks_waits_c1_1 p0 q0) 0) fun j1 =>
 some (-1)
set_option maxHeartbeats 4000000 in
/-- slices.IndexFunc[[]impl.Lock,impl.Lock] -/
theorem k_sl_IndexFunc_Lock_i_Locks_waits_c1 (p0 : (List Lock)) (q0 : Tx) (v : Int) (h : sl_IndexFunc_Lock_i_Locks_waits_c1 p0 q0 = some v) : CallOK Try.prog 131 [lV 6 eLock p0, .one (.c (.fn 110 [.bx [iC q0.c, iC q0.e, iC q0.n]]))] (iV v) [] :=
  callOK tyOK Try.func131 rfl fun w S hS => by
    unfold sl_IndexFunc_Lock_i_Locks_waits_c1 at h
    refine a_seq ?_
    refine a_run [0, 1] tyOK (st1 := mk 19 [(0, lV 6 eLock p0), (1, .one (.c (.fn 110 [.bx [iC q0.c, iC q0.e, iC q0.n]])))] []) (by kernel_rfl) ?_
    refine a_seq ?_
    refine a_seq ?_
    refine a_runM tyOK (l1 := [(0, lV 6 eLock p0), (1, .one (.c (.fn 110 [.bx [iC q0.c, iC q0.e, iC q0.n]]))), (7, iV (((((p0).map eLock).length : Nat) : Int))), (8, iV 0)]) (by kernel_rfl) ?_
    obtain ⟨y1, h, ky1, zy1⟩ := bndS_e h
    refine a_joinT (ι := Unit) (fun j => mk 19 [] []) (fun j => y1 = .inl j) ?_ ?_
    · refine a_block ?_
      refine a_loopT (Bsl_IndexFunc_Lock_i_Locks_waits_c1_1 p0 q0) (fun s1 => mk 19 [(0, lV 6 eLock p0), (1, .one (.c (.fn 110 [.bx [iC q0.c, iC q0.e, iC q0.n]]))), (7, iV (((((p0).map eLock).length : Nat) : Int))), (8, iV s1)] []) 0 h ?_ ?_
      · exact imp_keepTo [0, 1, 7, 8] (by kernel_rfl) (imp_done rfl)
      intro s1 y2 h zy2
      unfold Bsl_IndexFunc_Lock_i_Locks_waits_c1_1 at h
      refine a_seq ?_
      refine a_run [0, 1, 7, 8, 9] tyOK (st1 := mk 19 [(0, lV 6 eLock p0), (1, .one (.c (.fn 110 [.bx [iC q0.c, iC q0.e, iC q0.n]]))), (7, iV (((((p0).map eLock).length : Nat) : Int))), (8, iV s1), (9, bV (decide (s1 < (((((p0).map eLock).length : Nat) : Int)))))] []) (by kernel_rfl) ?_
      refine a_seq ?_
      refine a_cond (b := decide (s1 < (((((p0).map eLock).length : Nat) : Int)))) (by kernel_rfl) (fun h1 => ?_) (fun h1 => ?_)
      · replace h := cT h1 h
        refine a_skip ?_
        refine a_seq ?_
        refine a_block ?_
        refine a_seq ?_
        refine a_run [0, 1, 5, 7, 8] tyOK (st1 := mk 19 [(0, lV 6 eLock p0), (1, .one (.c (.fn 110 [.bx [iC q0.c, iC q0.e, iC q0.n]]))), (5, iV s1), (7, iV (((((p0).map eLock).length : Nat) : Int))), (8, iV s1)] []) (by kernel_rfl) ?_
        refine a_seq ?_
        refine a_ops [0, 1, 2, 3, 4, 5] (by kernel_rfl) ?_
        refine ao_someM [0, 1, 2] [3, 4, 5] tyOK (l1 := [(0, lV 6 eLock p0), (1, .one (.c (.fn 110 [.bx [iC q0.c, iC q0.e, iC q0.n]]))), (5, iV s1), (7, iV (((((p0).map eLock).length : Nat) : Int))), (8, iV s1), (11, .one (.c (.fn 110 [.bx [iC q0.c, iC q0.e, iC q0.n]]))), (12, lV 6 eLock p0), (13, iV s1)]) (by kernel_rfl) ?_
        obtain ⟨x1, ex1, h⟩ := bnd_e h
        refine ao_indexM (d := 14) (size := 6) (n := s1) (rows := (p0).map eLock) (l1 := [(0, lV 6 eLock p0), (1, .one (.c (.fn 110 [.bx [iC q0.c, iC q0.e, iC q0.n]]))), (5, iV s1), (7, iV (((((p0).map eLock).length : Nat) : Int))), (8, iV s1), (11, .one (.c (.fn 110 [.bx [iC q0.c, iC q0.e, iC q0.n]]))), (14, .one (.fp [iC x1.tx.c, iC x1.tx.e, iC x1.tx.n, sC x1.range.lo, sC x1.range.hi, bC x1.ex] 0))]) (eLock x1) tyOK (by kernel_rfl) (getI_e ex1).1 (show ((p0).map eLock)[_]? = some _ from by rw [List.getElem?_map, (getI_e ex1).2]; rfl) (by kernel_rfl) (by kernel_rfl) ?_
        refine ao_some [4] [5] [0, 1, 5, 7, 8, 11, 15] tyOK (st1 := mk 19 [(0, lV 6 eLock p0), (1, .one (.c (.fn 110 [.bx [iC q0.c, iC q0.e, iC q0.n]]))), (5, iV s1), (7, iV (((((p0).map eLock).length : Nat) : Int))), (8, iV s1), (11, .one (.c (.fn 110 [.bx [iC q0.c, iC q0.e, iC q0.n]]))), (15, .agg [.c (iC x1.tx.c), .c (iC x1.tx.e), .c (iC x1.tx.n), .c (sC x1.range.lo), .c (sC x1.range.hi), .c (bC x1.ex)])] []) (by kernel_rfl) ?_
        refine ao_callv (f := 110) (d := 16) (A := [.agg [.c (iC x1.tx.c), .c (iC x1.tx.e), .c (iC x1.tx.n), .c (sC x1.range.lo), .c (sC x1.range.hi), .c (bC x1.ex)], .one (.c (.bx [iC q0.c, iC q0.e, iC q0.n]))]) (A' := [.agg [.c (iC x1.tx.c), .c (iC x1.tx.e), .c (iC x1.tx.n), .c (sC x1.range.lo), .c (sC x1.range.hi), .c (bC x1.ex)], .one (.c (.bx [iC q0.c, iC q0.e, iC q0.n]))]) (st1 := mk 19 [(0, lV 6 eLock p0), (1, .one (.c (.fn 110 [.bx [iC q0.c, iC q0.e, iC q0.n]]))), (5, iV s1), (7, iV (((((p0).map eLock).length : Nat) : Int))), (8, iV s1), (16, bV (i_Locks_waits_c1 x1 q0))] []) [0, 1, 5, 7, 8, 16] (k_i_Locks_waits_c1 x1 q0 _ rfl) Try.call110 (by kernel_rfl) (.cons (.agg (.cons (.same rfl) (.cons (.same rfl) (.cons (.same rfl) (.cons (.same rfl) (.cons (.same rfl) (.cons (.same rfl) .nil))))))) (.cons (.one (.same rfl)) .nil)) rfl (clean_nil) (by kernel_rfl) (by kernel_rfl) ?_
        refine ao_nil ?_
        refine a_cond (b := i_Locks_waits_c1 x1 q0) (by kernel_rfl) (fun h2 => ?_) (fun h2 => ?_)
        · replace h := cT h2 h
          refine a_seq ?_
          refine a_runM tyOK (l1 := [(4, iV s1)]) (by kernel_rfl) ?_
          refine a_ret ?_
          obtain rfl := Option.some.inj h
          obtain rfl := zy2 _ rfl
          obtain rfl := zy1 _ rfl
          exact end_eq (res' := iV s1) (by kernel_rfl) (by first | rfl | simp)
        · replace h := cF h2 h
          refine a_skip ?_
          refine a_runM tyOK (l1 := [(0, lV 6 eLock p0), (1, .one (.c (.fn 110 [.bx [iC q0.c, iC q0.e, iC q0.n]]))), (7, iV (((((p0).map eLock).length : Nat) : Int))), (8, iV (IntKind.wrap .i64 (s1 + 1)))]) (by kernel_rfl) ?_
          obtain rfl := Option.some.inj h
          show ∃ _, _ ∧ Imp _ _ _
          refine ⟨_, rfl, ?_⟩
          exact imp_keepTo [0, 1, 7, 8] (by kernel_rfl) (imp_done rfl)
      · replace h := cF h1 h
        refine a_exit ?_
        obtain rfl := Option.some.inj h
        obtain rfl := zy2 _ rfl
        show ∃ _, _ ∧ Imp _ _ _
        refine ⟨_, rfl, ?_⟩
        exact imp_keepTo [] (by kernel_rfl) (imp_done rfl)
    intro j1 hj1
    replace h := ky1 _ hj1
    refine a_seq ?_
    refine a_run [4] tyOK (st1 := mk 19 [(4, iV (-1))] []) (by kernel_rfl) ?_
    refine a_ret ?_
    obtain rfl := Option.some.inj h
    exact end_eq (res' := iV (-1)) (by kernel_rfl) (by first | rfl | simp)
noncomputable def sl_ContainsFunc_Lock_i_Locks_waits_c1 (p0 : (List Lock)) (q0 : Tx) : Option (Bool) :=
 bnd (sl_IndexFunc_Lock_i_Locks_waits_c1 p0 q0) fun r1 =>
 some (decide (r1 ≥ 0))
set_option maxHeartbeats 4000000 in
/-- slices.ContainsFunc[[]impl.Lock,impl.Lock] -/
theorem k_sl_ContainsFunc_Lock_i_Locks_waits_c1 (p0 : (List Lock)) (q0 : Tx) (v : Bool) (h : sl_ContainsFunc_Lock_i_Locks_waits_c1 p0 q0 = some v) : CallOK Try.prog 107 [lV 6 eLock p0, .one (.c (.fn 110 [.bx [iC q0.c, iC q0.e, iC q0.n]]))] (bV v) [] :=
  callOK tyOK Try.func107 rfl fun w S hS => by
    unfold sl_ContainsFunc_Lock_i_Locks_waits_c1 at h
    refine a_seq ?_
    refine a_run [0, 1] tyOK (st1 := mk 9 [(0, lV 6 eLock p0), (1, .one (.c (.fn 110 [.bx [iC q0.c, iC q0.e, iC q0.n]])))] []) (by kernel_rfl) ?_
    refine a_seq ?_
    refine a_ops [0, 1, 2, 3, 4] (by kernel_rfl) ?_
    refine ao_someM [0, 1] [2, 3, 4] tyOK (l1 := [(5, lV 6 eLock p0), (6, .one (.c (.fn 110 [.bx [iC q0.c, iC q0.e, iC q0.n]])))]) (by kernel_rfl) ?_
    obtain ⟨r1, er1, h⟩ := bnd_e h
    refine ao_enterM (f := 131) (d := 7) (A := [lV 6 eLock p0, .one (.c (.fn 110 [.bx [iC q0.c, iC q0.e, iC q0.n]]))]) (l1 := [(7, iV r1)]) (k_sl_IndexFunc_Lock_i_Locks_waits_c1 p0 q0 r1 er1) Try.call131 (by kernel_rfl) (by kernel_rfl) (by kernel_rfl) ?_
    refine ao_someM [3, 4] [] tyOK (l1 := [(4, bV (decide (r1 ≥ 0)))]) (by kernel_rfl) ?_
    refine ao_nil ?_
    refine a_ret ?_
    obtain rfl := Option.some.inj h
    exact end_eq (res' := bV (decide (r1 ≥ 0))) (by kernel_rfl) (by first | rfl | simp)
noncomputable def i_Locks_waits (p0 : Locks) (p1 : Tx) : Option (Bool) :=
 bnd (sl_ContainsFunc_Lock_i_Locks_waits_c1 p0.wait p1) fun r1 =>
 some r1
set_option maxHeartbeats 4000000 in
/-- (*impl.Locks).waits -/
theorem k_i_Locks_waits (p0 : Locks) (p1 : Tx) (v : Bool) (h : i_Locks_waits p0 p1 = some v) : CallOK Try.prog 68 [.one (.c (.bx [lC 6 eLock p0.held, lC 6 eLock p0.wait])), .agg [.c (iC p1.c), .c (iC p1.e), .c (iC p1.n)]] (bV v) [] :=
  callOK tyOK Try.func68 rfl fun w S hS => by
    unfold i_Locks_waits at h
    refine a_seq ?_
    refine a_run [0, 3] tyOK (st1 := mk 11 [(0, .one (.c (.bx [lC 6 eLock p0.held, lC 6 eLock p0.wait]))), (3, pV 3)] [(3, [.bx [iC p1.c, iC p1.e, iC p1.n]])]) (by kernel_rfl) ?_
    refine a_seq ?_
    refine a_ops [0, 1, 2, 3, 4, 5, 6] (by kernel_rfl) ?_
    refine ao_someM [0, 1, 2, 3] [4, 5, 6] tyOK (l1 := [(3, pV 3), (8, lV 6 eLock p0.wait)]) (by kernel_rfl) ?_
    refine ao_freeze (fun _ _ h => h) [] 3 0 [3, 8] (st' := mk 11 [(3, .one (.c (.bx [iC p1.c, iC p1.e, iC p1.n]))), (8, lV 6 eLock p0.wait)] []) (by kernel_rfl) ?_
    refine ao_fn (d := 9) (f := 110) (cs := [.bx [iC p1.c, iC p1.e, iC p1.n]]) (st1 := mk 11 [(8, lV 6 eLock p0.wait), (9, .one (.c (.fn 110 [.bx [iC p1.c, iC p1.e, iC p1.n]])))] []) [8, 9] (by kernel_rfl) (by kernel_rfl) ?_
    obtain ⟨r1, er1, h⟩ := bnd_e h
    refine ao_enterM (f := 107) (d := 10) (A := [lV 6 eLock p0.wait, .one (.c (.fn 110 [.bx [iC p1.c, iC p1.e, iC p1.n]]))]) (l1 := [(10, bV r1)]) (k_sl_ContainsFunc_Lock_i_Locks_waits_c1 p0.wait p1 r1 er1) Try.call107 (by kernel_rfl) (by kernel_rfl) (by kernel_rfl) ?_
    refine ao_someM [6] [] tyOK (l1 := [(4, bV r1)]) (by kernel_rfl) ?_
    refine ao_nil ?_
    refine a_ret ?_
    obtain rfl := Option.some.inj h
    exact end_eq (res' := bV r1) (by kernel_rfl) (by first | rfl | simp)


end Go.Proofs.Ytagoajkiccgmjaa
