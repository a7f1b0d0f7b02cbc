/- For every code, the data and the ask drawn from it: what RunAsk of the given program answers is as the law FnRunAsk asks (the statement FnRunAskSaid); no condition beside the statement's own. -/
import Derived.Test.YtagoajkiccgmjaaFnRunAskPartA
import Derived.Test.YtagoajkiccgmjaaRows
import Derived.WalkKit
import Derived.ProofKit
import Derived.OpenShut
import Derived.ShutString
import Derived.ChangeOld
import Derived.Below
import Derived.SizedLaws
set_option linter.unusedVariables false
set_option linter.unusedSimpArgs false
namespace Go.Proofs.Ytagoajkiccgmjaa.Row10
open Go.ChangeShapes Go.WideShapes Go.ChangeAt Go.RowKit Go.Mv
open Go.ChangeMaps (open_string shut_string)
theorem own : ownKnob Try.prog.godebug = none := by kernel_rfl
theorem laidOut : laidOutB Try.prog = true := by kernel_rfl
set_option maxRecDepth 100000 in
theorem opens5 : Opens Try.prog 5 (fun n : Int => [.v (.int .u8 n)]) (fun n => (Lit.int .u8 n).wf = true) := opens_int Try.underlying5
set_option maxRecDepth 100000 in
theorem opens40 : Opens Try.prog 40 (fun xs : List Int => [.sl 1 (xs.map eN_u8)]) (fun xs => xs.length * 1 ≤ 140737488351232 ∧ ∀ x ∈ xs, (fun n => (Lit.int .u8 n).wf = true) x) := opens_slice Try.underlying40 (by kernel_rfl) (by kernel_rfl) (by decide) opens5
set_option maxRecDepth 100000 in
theorem lifted (os : Os) (started : os.Started) (H : Type) (enc : TypeId × Value → H) :
    ReturnsInHanded {} Try.checked os 5 .any (Rows.fnRunAskSpec.pre6 enc Try.prog Try.f5 Rows.fnRunAskRow.domain false) (Rows.fnRunAskSpec.post enc Try.prog Try.f5 false true false false) := by
  refine returnsInHanded_of_change_sized (C := Try.checked) own started (by kernel_rfl) Try.func5
    (ChangeSpec.witness6 (enc := enc) (C := Try.checked) false ⟨#[], #[.slice none 0 0], []⟩ 8 (by kernel_rfl) (by kernel_rfl) (by kernel_rfl) (by kernel_rfl)) ?_
  intro W base args ds gs before hval0 hW hcnd hsz0 _
  have hsz : (DataW.weightsEach Try.prog (Try.f5.params.toList ++ Rows.fnRunAskSpec.plain.varTypes Try.prog) (ds ++ gs)).all (· ≤ reachBytes) = true := hsz0
  have hval : ∀ (j : Nat) t v, Try.f5.params[j]? = some t → args[j]? = some v → Value.okWide Try.prog W .any base t v := hval0
  have hW' := hW
  obtain ⟨p, q, hA0, hV, rfl, hfz, hnd⟩ := hW
  have hA : DataW.TrodAll enc Try.prog W 0 (fun _ => true) true Try.f5.params.toList args.toList ds p := hA0
  rw [Try.params5] at hA hval hsz
  obtain ⟨v0, vs0, d0, ds0, p0, q0, hargs, rfl, rfl, h0, r0⟩ := trodAll_cons hA
  obtain ⟨rfl, rfl, rfl⟩ := trodAll_nil r0
  obtain rfl : args = #[v0] := by cases args; simp_all
  obtain ⟨rfl, rfl⟩ := trodVars_none hV
  have k0 := h0
  have lt0 : ∀ x ∈ p0, x.block < W.heap.size := by obtain ⟨m, hm⟩ := k0; exact DataW.trod_lt m _ _ _ hm
  have wt0 : ∀ n ∈ d0.weights Try.prog 40, n ≤ 140737488351232 := fun n hn => by have := List.all_eq_true.1 hsz n (DataW.weights_mem_each (j := 0) (t := 40) rfl rfl n hn); exact of_decide_eq_true this
  obtain ⟨a0, len0, cap0, rfl⟩ := okWide_slice Try.underlying40 (hval 0 40 v0 rfl rfl)
  obtain ⟨m0, hf0⟩ := h0
  obtain ⟨y0, z0, o0⟩ := opens40 H enc W m0 _ _ hf0 wt0
  have tv0 : TVVal W (fun b => b < W.heap.size) (fun _ => none) (lV 1 eN_u8 y0) (.slice a0 len0 cap0) := by cases z0 with | cons h _ => exact h
  clear hA0 hval0 hsz0
  refine (ok_FnRunAsk y0  W (fun b => b < W.heap.size) [.slice a0 len0 cap0] (fun b hb => hb) (.cons tv0 .nil)).mono fun e W' ⟨v, he, ret⟩ => ?_
  subst he
  obtain ⟨bel, _, _, _, _, _, _, hv, _⟩ := ret
  have hv := one_v hv
  subst hv
  exact ⟨_, rfl, _, _, _, [], _, [], hW', trodAll_mk1 (shut_bool Try.underlying4 _), (trodAll_cons_mk (Below.trod laidOut (by kernel_rfl) (of_decide_eq_true (by kernel_rfl)) k0 bel lt0) trodAll_mk0), rfl, bel.frame _, fun h => by cases h⟩
theorem over : Rows.fnRunAskRow.holds Try.pinned (OpenSpec.ofChange Rows.fnRunAskSpec) :=
  OpenClaim.holds_of_wide 5 Try.f5 rfl rfl rfl rfl rfl rfl rfl ⟨rfl, rfl, rfl, rfl, rfl⟩ rfl rfl rfl rfl rfl (by kernel_rfl) Try.func5 (by kernel_rfl)
    (of_decide_eq_true (by kernel_rfl)) (by unfold Func.isWrapper; first | (rw [if_pos (by decide +kernel)]; kernel_rfl) | (rw [if_neg (by decide +kernel)]; exact ⟨rfl, rfl⟩))
    (fun os started H enc _ => lifted os started H enc)
theorem proved : Rows.FnRunAskSaid := over
end Go.Proofs.Ytagoajkiccgmjaa.Row10
