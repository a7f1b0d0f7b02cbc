/- For every log of replies and every order of transactions: Serial of the given program returns what the reference's returns (the statement FnExactSerialSaid); no condition beside the statement's own. -/
import Derived.Test.YtagoajkiccgmjaaSerialPartB
import Derived.Test.YtagoajkiccgmjaaRows
import Derived.WalkKit
import Derived.ProofKit
import Derived.OpenShut
import Derived.ShutString
import Derived.ChangeOld
import Derived.Below
import Derived.SizedLaws
set_option linter.unusedVariables false
set_option linter.unusedSimpArgs false
namespace Go.Proofs.Ytagoajkiccgmjaa.Row12
open Go.ChangeShapes Go.WideShapes Go.ChangeAt Go.RowKit Go.Mv
open Go.ChangeMaps (open_string shut_string)
theorem own : ownKnob Try.prog.godebug = none := by kernel_rfl
theorem laidOut : laidOutB Try.prog = true := by kernel_rfl
set_option maxRecDepth 100000 in
theorem opens3 : Opens Try.prog 3 (fun n : Int => [.v (.int .i64 n)]) (fun n => (Lit.int .i64 n).wf = true) := opens_int Try.underlying3
set_option maxRecDepth 100000 in
theorem opens63 : Opens Try.prog 63 eTx (fun _ => True) :=
  opens_struct Try.underlying63 (fun H enc W fuel cs h1 h2 => by
    obtain ⟨y, k1, k2⟩ := (opensF_cons (P := Try.prog) (off := 0) (fs := [(1, 3), (2, 3)]) opens3 (by kernel_rfl : Try.prog.cellsOf 3 = 1) (opensF_cons (P := Try.prog) (off := 1) (fs := [(2, 3)]) opens3 (by kernel_rfl : Try.prog.cellsOf 3 = 1) (opensF_cons (P := Try.prog) (off := 2) (fs := []) opens3 (by kernel_rfl : Try.prog.cellsOf 3 = 1) (opensF_nil)))) H enc W fuel cs h1 h2
    exact ⟨⟨y.1, y.2.1, y.2.2.1⟩, by simpa [eTx] using k1, by trivial⟩) (by kernel_rfl)
set_option maxRecDepth 100000 in
theorem opens9 : Opens Try.prog 9 (fun s : ByteArray => [sC s]) (fun s => s.size ≤ 140737488351232) := opens_string Try.underlying9
set_option maxRecDepth 100000 in
theorem opens24 : Opens Try.prog 24 eRange SmallG :=
  opens_struct Try.underlying24 (fun H enc W fuel cs h1 h2 => by
    obtain ⟨y, k1, k2⟩ := (opensF_cons (P := Try.prog) (off := 0) (fs := [(1, 9)]) opens9 (by kernel_rfl : Try.prog.cellsOf 9 = 1) (opensF_cons (P := Try.prog) (off := 1) (fs := []) opens9 (by kernel_rfl : Try.prog.cellsOf 9 = 1) (opensF_nil))) H enc W fuel cs h1 h2
    exact ⟨⟨y.1, y.2.1⟩, by simpa [eRange] using k1, by (exact ⟨k2.1, k2.2.1⟩)⟩) (by kernel_rfl)
set_option maxRecDepth 100000 in
theorem opens4 : Opens Try.prog 4 (fun b : Bool => [bC b]) (fun _ => True) := opens_bool Try.underlying4
set_option maxRecDepth 100000 in
theorem opens26 : Opens Try.prog 26 eAsk SmallA :=
  opens_struct Try.underlying26 (fun H enc W fuel cs h1 h2 => by
    obtain ⟨y, k1, k2⟩ := (opensF_cons (P := Try.prog) (off := 0) (fs := [(1, 9), (2, 9), (3, 24), (5, 3), (6, 4)]) opens3 (by kernel_rfl : Try.prog.cellsOf 3 = 1) (opensF_cons (P := Try.prog) (off := 1) (fs := [(2, 9), (3, 24), (5, 3), (6, 4)]) opens9 (by kernel_rfl : Try.prog.cellsOf 9 = 1) (opensF_cons (P := Try.prog) (off := 2) (fs := [(3, 24), (5, 3), (6, 4)]) opens9 (by kernel_rfl : Try.prog.cellsOf 9 = 1) (opensF_cons (P := Try.prog) (off := 3) (fs := [(5, 3), (6, 4)]) opens24 (by kernel_rfl : Try.prog.cellsOf 24 = 2) (opensF_cons (P := Try.prog) (off := 5) (fs := [(6, 4)]) opens3 (by kernel_rfl : Try.prog.cellsOf 3 = 1) (opensF_cons (P := Try.prog) (off := 6) (fs := []) opens4 (by kernel_rfl : Try.prog.cellsOf 4 = 1) (opensF_nil))))))) H enc W fuel cs h1 h2
    exact ⟨⟨y.1, y.2.1, y.2.2.1, y.2.2.2.1, y.2.2.2.2.1, y.2.2.2.2.2.1⟩, by simpa [eAsk, eRange] using k1, by (exact ⟨k2.2.1, k2.2.2.1, k2.2.2.2.1⟩)⟩) (by kernel_rfl)
set_option maxRecDepth 100000 in
theorem opens82 : Opens Try.prog 82 ePair SmallP :=
  opens_struct Try.underlying82 (fun H enc W fuel cs h1 h2 => by
    obtain ⟨y, k1, k2⟩ := (opensF_cons (P := Try.prog) (off := 0) (fs := [(1, 9)]) opens9 (by kernel_rfl : Try.prog.cellsOf 9 = 1) (opensF_cons (P := Try.prog) (off := 1) (fs := []) opens9 (by kernel_rfl : Try.prog.cellsOf 9 = 1) (opensF_nil))) H enc W fuel cs h1 h2
    exact ⟨⟨y.1, y.2.1⟩, by simpa [ePair] using k1, by (exact ⟨k2.1, k2.2.1⟩)⟩) (by kernel_rfl)
set_option maxRecDepth 100000 in
theorem opens22 : Opens Try.prog 22 (fun xs : List Pair => [.sl 2 (xs.map ePair)]) (fun xs => xs.length * 32 ≤ 140737488351232 ∧ ∀ x ∈ xs, SmallP x) := opens_slice Try.underlying22 (by kernel_rfl) (by kernel_rfl) (by decide) opens82
set_option maxRecDepth 100000 in
theorem opens117 : Opens Try.prog 117 eReply SmallR :=
  opens_struct Try.underlying117 (fun H enc W fuel cs h1 h2 => by
    obtain ⟨y, k1, k2⟩ := (opensF_cons (P := Try.prog) (off := 0) (fs := [(1, 63), (4, 26), (11, 3), (12, 22)]) opens3 (by kernel_rfl : Try.prog.cellsOf 3 = 1) (opensF_cons (P := Try.prog) (off := 1) (fs := [(4, 26), (11, 3), (12, 22)]) opens63 (by kernel_rfl : Try.prog.cellsOf 63 = 3) (opensF_cons (P := Try.prog) (off := 4) (fs := [(11, 3), (12, 22)]) opens26 (by kernel_rfl : Try.prog.cellsOf 26 = 7) (opensF_cons (P := Try.prog) (off := 11) (fs := [(12, 22)]) opens3 (by kernel_rfl : Try.prog.cellsOf 3 = 1) (opensF_cons (P := Try.prog) (off := 12) (fs := []) opens22 (by kernel_rfl : Try.prog.cellsOf 22 = 1) (opensF_nil)))))) H enc W fuel cs h1 h2
    exact ⟨⟨y.1, y.2.1, y.2.2.1, y.2.2.2.1, y.2.2.2.2.1⟩, by simpa [eAsk, eRange, eReply, eTx] using k1, by (exact ⟨k2.2.2.1, k2.2.2.2.2.1⟩)⟩) (by kernel_rfl)
set_option maxRecDepth 100000 in
theorem opens62 : Opens Try.prog 62 (fun xs : List Reply => [.sl 13 (xs.map eReply)]) (fun xs => xs.length * 152 ≤ 140737488351232 ∧ ∀ x ∈ xs, SmallR x) := opens_slice Try.underlying62 (by kernel_rfl) (by kernel_rfl) (by decide) opens117
set_option maxRecDepth 100000 in
theorem opens73 : Opens Try.prog 73 (fun xs : List Tx => [.sl 3 (xs.map eTx)]) (fun xs => xs.length * 24 ≤ 140737488351232 ∧ ∀ x ∈ xs, (fun _ => True) x) := opens_slice Try.underlying73 (by kernel_rfl) (by kernel_rfl) (by decide) opens63
set_option maxRecDepth 100000 in
theorem lifted (os : Os) (started : os.Started) (H : Type) (enc : TypeId × Value → H) :
    ReturnsInHanded {} Try.checked os 7 .any (Rows.fnExactSerialSpec.pre6 enc Try.prog Try.f7 Rows.fnExactSerialRow.domain false) (Rows.fnExactSerialSpec.post enc Try.prog Try.f7 false true false false) := by
  refine returnsInHanded_of_change_sized (C := Try.checked) own started (by kernel_rfl) Try.func7
    (ChangeSpec.witness6 (enc := enc) (C := Try.checked) false ⟨#[], #[.slice none 0 0, .slice none 0 0], []⟩ 8 (by kernel_rfl) (by kernel_rfl) (by kernel_rfl) (by kernel_rfl)) ?_
  intro W base args ds gs before hval0 hW hcnd hsz0 _
  have hsz : (DataW.weightsEach Try.prog (Try.f7.params.toList ++ Rows.fnExactSerialSpec.plain.varTypes Try.prog) (ds ++ gs)).all (· ≤ reachBytes) = true := hsz0
  have hval : ∀ (j : Nat) t v, Try.f7.params[j]? = some t → args[j]? = some v → Value.okWide Try.prog W .any base t v := hval0
  have hW' := hW
  obtain ⟨p, q, hA0, hV, rfl, hfz, hnd⟩ := hW
  have hA : DataW.TrodAll enc Try.prog W 0 (fun _ => true) true Try.f7.params.toList args.toList ds p := hA0
  rw [Try.params7] at hA hval hsz
  obtain ⟨v0, vs0, d0, ds0, p0, q0, hargs, rfl, rfl, h0, r0⟩ := trodAll_cons hA
  obtain ⟨v1, vs1, d1, ds1, p1, q1, rfl, rfl, rfl, h1, r1⟩ := trodAll_cons r0
  obtain ⟨rfl, rfl, rfl⟩ := trodAll_nil r1
  obtain rfl : args = #[v0, v1] := by cases args; simp_all
  obtain ⟨rfl, rfl⟩ := trodVars_none hV
  have k0 := h0
  have lt0 : ∀ x ∈ p0, x.block < W.heap.size := by obtain ⟨m, hm⟩ := k0; exact DataW.trod_lt m _ _ _ hm
  have wt0 : ∀ n ∈ d0.weights Try.prog 62, n ≤ 140737488351232 := fun n hn => by have := List.all_eq_true.1 hsz n (DataW.weights_mem_each (j := 0) (t := 62) rfl rfl n hn); exact of_decide_eq_true this
  obtain ⟨a0, len0, cap0, rfl⟩ := okWide_slice Try.underlying62 (hval 0 62 v0 rfl rfl)
  obtain ⟨m0, hf0⟩ := h0
  obtain ⟨y0, z0, o0⟩ := opens62 H enc W m0 _ _ hf0 wt0
  have tv0 : TVVal W (fun b => b < W.heap.size) (fun _ => none) (lV 13 eReply y0) (.slice a0 len0 cap0) := by cases z0 with | cons h _ => exact h
  have k1 := h1
  have lt1 : ∀ x ∈ p1, x.block < W.heap.size := by obtain ⟨m, hm⟩ := k1; exact DataW.trod_lt m _ _ _ hm
  have wt1 : ∀ n ∈ d1.weights Try.prog 73, n ≤ 140737488351232 := fun n hn => by have := List.all_eq_true.1 hsz n (DataW.weights_mem_each (j := 1) (t := 73) rfl rfl n hn); exact of_decide_eq_true this
  obtain ⟨a1, len1, cap1, rfl⟩ := okWide_slice Try.underlying73 (hval 1 73 v1 rfl rfl)
  obtain ⟨m1, hf1⟩ := h1
  obtain ⟨y1, z1, o1⟩ := opens73 H enc W m1 _ _ hf1 wt1
  have tv1 : TVVal W (fun b => b < W.heap.size) (fun _ => none) (lV 3 eTx y1) (.slice a1 len1 cap1) := by cases z1 with | cons h _ => exact h
  clear hA0 hval0 hsz0
  refine (ok_Serial y0 y1 (o0.1) (o0.2) (o1.1) W (fun b => b < W.heap.size) [.slice a0 len0 cap0, .slice a1 len1 cap1] (fun b hb => hb) (.cons tv0 (.cons tv1 .nil))).mono fun e W' ⟨v, he, ret⟩ => ?_
  subst he
  obtain ⟨bel, _, _, _, _, _, _, hv, _⟩ := ret
  have hv := one_v hv
  subst hv
  exact ⟨_, rfl, _, _, _, [], _, [], hW', trodAll_mk1 (shut_bool Try.underlying4 _), (trodAll_cons_mk (Below.trod laidOut (by kernel_rfl) (of_decide_eq_true (by kernel_rfl)) k0 bel lt0) (trodAll_cons_mk (Below.trod laidOut (by kernel_rfl) (of_decide_eq_true (by kernel_rfl)) k1 bel lt1) trodAll_mk0)), rfl, bel.frame _, fun h => by cases h⟩
theorem over : Rows.fnExactSerialRow.holds Try.pinned (OpenSpec.ofChange Rows.fnExactSerialSpec) :=
  OpenClaim.holds_of_wide 7 Try.f7 rfl rfl rfl rfl rfl rfl rfl ⟨rfl, rfl, rfl, rfl, rfl⟩ rfl rfl rfl rfl rfl (by kernel_rfl) Try.func7 (by kernel_rfl)
    (of_decide_eq_true (by kernel_rfl)) (by unfold Func.isWrapper; first | (rw [if_pos (by decide +kernel)]; kernel_rfl) | (rw [if_neg (by decide +kernel)]; exact ⟨rfl, rfl⟩))
    (fun os started H enc _ => lifted os started H enc)
theorem proved : Rows.FnExactSerialSaid := over
end Go.Proofs.Ytagoajkiccgmjaa.Row12
