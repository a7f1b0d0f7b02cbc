/- The given program's LockAsk returns what the reference's LockAsk returns, for every pair of locks and a lock (the statement FnExactLockAskSaid); no condition beside the statement's own. -/
import Derived.Test.YtijmnochaamllaaLockAskPartD
import Derived.Test.YtijmnochaamllaaRows
import Derived.WalkKit
import Derived.ProofKit
import Derived.OpenShut
import Derived.ShutString
import Derived.ChangeOld
import Derived.Below
import Derived.SizedLaws
set_option linter.unusedVariables false
set_option linter.unusedSimpArgs false
namespace Go.Proofs.Ytijmnochaamllaa.Row5
open Go.ChangeShapes Go.WideShapes Go.ChangeAt Go.RowKit Go.Mv
open Go.ChangeMaps (open_string shut_string)
theorem own : ownKnob Try.prog.godebug = none := by kernel_rfl
theorem laidOut : laidOutB Try.prog = true := by kernel_rfl
set_option maxRecDepth 100000 in
theorem opens3 : Opens Try.prog 3 (fun n : Int => [.v (.int .i64 n)]) (fun n => (Lit.int .i64 n).wf = true) := opens_int Try.underlying3
set_option maxRecDepth 100000 in
theorem opens4 : Opens Try.prog 4 (fun b : Bool => [bC b]) (fun _ => True) := opens_bool Try.underlying4
set_option maxRecDepth 100000 in
theorem opens9 : Opens Try.prog 9 (fun s : ByteArray => [sC s]) (fun s => s.size ≤ 140737488351232) := opens_string Try.underlying9
set_option maxRecDepth 100000 in
theorem opens31 : Opens Try.prog 31 eTx (fun _ => True) :=
  opens_struct Try.underlying31 (fun H enc W fuel cs h1 h2 => by
    obtain ⟨y, k1, k2⟩ := (opensF_cons (P := Try.prog) (off := 0) (fs := [(1, 3), (2, 3)]) opens3 (by kernel_rfl : Try.prog.cellsOf 3 = 1) (opensF_cons (P := Try.prog) (off := 1) (fs := [(2, 3)]) opens3 (by kernel_rfl : Try.prog.cellsOf 3 = 1) (opensF_cons (P := Try.prog) (off := 2) (fs := []) opens3 (by kernel_rfl : Try.prog.cellsOf 3 = 1) (opensF_nil)))) H enc W fuel cs h1 h2
    exact ⟨⟨y.1, y.2.1, y.2.2.1⟩, by simpa [eTx] using k1, by trivial⟩) (by kernel_rfl)
set_option maxRecDepth 100000 in
theorem opens41 : Opens Try.prog 41 eRange (fun _ => True) :=
  opens_struct Try.underlying41 (fun H enc W fuel cs h1 h2 => by
    obtain ⟨y, k1, k2⟩ := (opensF_cons (P := Try.prog) (off := 0) (fs := [(1, 9)]) opens9 (by kernel_rfl : Try.prog.cellsOf 9 = 1) (opensF_cons (P := Try.prog) (off := 1) (fs := []) opens9 (by kernel_rfl : Try.prog.cellsOf 9 = 1) (opensF_nil))) H enc W fuel cs h1 h2
    exact ⟨⟨y.1, y.2.1⟩, by simpa [eRange] using k1, by trivial⟩) (by kernel_rfl)
set_option maxRecDepth 100000 in
theorem opens60 : Opens Try.prog 60 eLock (fun _ => True) :=
  opens_struct Try.underlying60 (fun H enc W fuel cs h1 h2 => by
    obtain ⟨y, k1, k2⟩ := (opensF_cons (P := Try.prog) (off := 0) (fs := [(3, 41), (5, 4)]) opens31 (by kernel_rfl : Try.prog.cellsOf 31 = 3) (opensF_cons (P := Try.prog) (off := 3) (fs := [(5, 4)]) opens41 (by kernel_rfl : Try.prog.cellsOf 41 = 2) (opensF_cons (P := Try.prog) (off := 5) (fs := []) opens4 (by kernel_rfl : Try.prog.cellsOf 4 = 1) (opensF_nil)))) H enc W fuel cs h1 h2
    exact ⟨⟨y.1, y.2.1, y.2.2.1⟩, by simpa [eLock, eRange, eTx] using k1, by trivial⟩) (by kernel_rfl)
set_option maxRecDepth 100000 in
theorem opens56 : Opens Try.prog 56 (fun xs : List Lock => [.sl 6 (xs.map eLock)]) (fun xs => xs.length * 64 ≤ 140737488351232 ∧ ∀ x ∈ xs, (fun _ => True) x) := opens_slice Try.underlying56 (by kernel_rfl) (by kernel_rfl) (by decide) opens60
set_option maxRecDepth 100000 in
theorem opens58 : Opens Try.prog 58 eLocks Small :=
  opens_struct Try.underlying58 (fun H enc W fuel cs h1 h2 => by
    obtain ⟨y, k1, k2⟩ := (opensF_cons (P := Try.prog) (off := 0) (fs := [(1, 56)]) opens56 (by kernel_rfl : Try.prog.cellsOf 56 = 1) (opensF_cons (P := Try.prog) (off := 1) (fs := []) opens56 (by kernel_rfl : Try.prog.cellsOf 56 = 1) (opensF_nil))) H enc W fuel cs h1 h2
    exact ⟨⟨y.1, y.2.1⟩, by simpa [eLocks] using k1, by (have a := k2.1.1; have b := k2.2.1.1; exact ⟨Nat.le_trans a (by decide), Nat.le_trans b (by decide)⟩)⟩) (by kernel_rfl)
set_option maxRecDepth 100000 in
theorem lifted (os : Os) (started : os.Started) (H : Type) (enc : TypeId × Value → H) :
    ReturnsInHanded {} Try.checked os 7 .any (Rows.fnExactLockAskSpec.pre6 enc Try.prog Try.f7 Rows.fnExactLockAskRow.domain false) (Rows.fnExactLockAskSpec.post enc Try.prog Try.f7 false true false false) := by
  refine returnsInHanded_of_change_sized (C := Try.checked) own started (by kernel_rfl) Try.func7
    (ChangeSpec.witness6 (enc := enc) (C := Try.checked) false ⟨#[], #[.agg #[.slice none 0 0, .slice none 0 0], .agg #[.int .i64 0, .int .i64 0, .int .i64 0, .string ⟨#[]⟩, .string ⟨#[]⟩, .bool false]], []⟩ 8 (by kernel_rfl) (by kernel_rfl) (by kernel_rfl) (by kernel_rfl)) ?_
  intro W base args ds gs before hval0 hW hcnd hsz0 _
  have hsz : (DataW.weightsEach Try.prog (Try.f7.params.toList ++ Rows.fnExactLockAskSpec.plain.varTypes Try.prog) (ds ++ gs)).all (· ≤ reachBytes) = true := hsz0
  have hval : ∀ (j : Nat) t v, Try.f7.params[j]? = some t → args[j]? = some v → Value.okWide Try.prog W .any base t v := hval0
  have hW' := hW
  obtain ⟨p, q, hA0, hV, rfl, hfz, hnd⟩ := hW
  have hA : DataW.TrodAll enc Try.prog W 0 (fun _ => true) true Try.f7.params.toList args.toList ds p := hA0
  rw [Try.params7] at hA hval hsz
  obtain ⟨v0, vs0, d0, ds0, p0, q0, hargs, rfl, rfl, h0, r0⟩ := trodAll_cons hA
  obtain ⟨v1, vs1, d1, ds1, p1, q1, rfl, rfl, rfl, h1, r1⟩ := trodAll_cons r0
  obtain ⟨rfl, rfl, rfl⟩ := trodAll_nil r1
  obtain rfl : args = #[v0, v1] := by cases args; simp_all
  obtain ⟨rfl, rfl⟩ := trodVars_none hV
  have k0 := h0
  have lt0 : ∀ x ∈ p0, x.block < W.heap.size := by obtain ⟨m, hm⟩ := k0; exact DataW.trod_lt m _ _ _ hm
  have wt0 : ∀ n ∈ d0.weights Try.prog 58, n ≤ 140737488351232 := fun n hn => by have := List.all_eq_true.1 hsz n (DataW.weights_mem_each (j := 0) (t := 58) rfl rfl n hn); exact of_decide_eq_true this
  obtain ⟨c0, e0, _, _⟩ : ∃ cs, v0 = .agg cs ∧ cs.size = _ ∧ _ := by have := (hval 0 58 v0 rfl rfl); simpa only [Value.okWide, Try.underlying58] using this
  subst e0
  obtain ⟨m0, hf0⟩ := h0
  obtain ⟨y0, z0, o0⟩ := opens58 H enc W m0 _ _ hf0 wt0
  have tv0 : TVVal W (fun b => b < W.heap.size) (fun _ => none) (.agg [.c (.sl 6 ((y0.held).map eLock)), .c (.sl 6 ((y0.wait).map eLock))]) (.agg c0) := ⟨c0.toList, by simp, RepFs.told z0⟩
  have k1 := h1
  have lt1 : ∀ x ∈ p1, x.block < W.heap.size := by obtain ⟨m, hm⟩ := k1; exact DataW.trod_lt m _ _ _ hm
  have wt1 : ∀ n ∈ d1.weights Try.prog 60, n ≤ 140737488351232 := fun n hn => by have := List.all_eq_true.1 hsz n (DataW.weights_mem_each (j := 1) (t := 60) rfl rfl n hn); exact of_decide_eq_true this
  obtain ⟨c1, e1, _, _⟩ : ∃ cs, v1 = .agg cs ∧ cs.size = _ ∧ _ := by have := (hval 1 60 v1 rfl rfl); simpa only [Value.okWide, Try.underlying60] using this
  subst e1
  obtain ⟨m1, hf1⟩ := h1
  obtain ⟨y1, z1, o1⟩ := opens60 H enc W m1 _ _ hf1 wt1
  have tv1 : TVVal W (fun b => b < W.heap.size) (fun _ => none) (.agg [.c (iC y1.tx.c), .c (iC y1.tx.e), .c (iC y1.tx.n), .c (sC y1.range.lo), .c (sC y1.range.hi), .c (bC y1.ex)]) (.agg c1) := ⟨c1.toList, by simp, RepFs.told z1⟩
  clear hA0 hval0 hsz0
  refine (ok_LockAsk y0 y1 (o0) W (fun b => b < W.heap.size) [.agg c0, .agg c1] (fun b hb => hb) (.cons tv0 (.cons tv1 .nil))).mono fun e W' ⟨v, he, ret⟩ => ?_
  subst he
  obtain ⟨bel, _, _, _, _, _, _, hv, _⟩ := ret
  have hv := one_v hv
  subst hv
  exact ⟨_, rfl, _, _, _, [], _, [], hW', trodAll_mk1 (shut_bool Try.underlying4 _), (trodAll_cons_mk (Below.trod laidOut (by kernel_rfl) (of_decide_eq_true (by kernel_rfl)) k0 bel lt0) (trodAll_cons_mk (Below.trod laidOut (by kernel_rfl) (of_decide_eq_true (by kernel_rfl)) k1 bel lt1) trodAll_mk0)), rfl, bel.frame _, fun h => by cases h⟩
theorem over : Rows.fnExactLockAskRow.holds Try.pinned (OpenSpec.ofChange Rows.fnExactLockAskSpec) :=
  OpenClaim.holds_of_wide 7 Try.f7 rfl rfl rfl rfl rfl rfl rfl ⟨rfl, rfl, rfl, rfl, rfl⟩ rfl rfl rfl rfl rfl (by kernel_rfl) Try.func7 (by kernel_rfl)
    (of_decide_eq_true (by kernel_rfl)) (by unfold Func.isWrapper; first | (rw [if_pos (by decide +kernel)]; kernel_rfl) | (rw [if_neg (by decide +kernel)]; exact ⟨rfl, rfl⟩))
    (fun os started H enc _ => lifted os started H enc)
theorem proved : Rows.FnExactLockAskSaid := over
end Go.Proofs.Ytijmnochaamllaa.Row5
