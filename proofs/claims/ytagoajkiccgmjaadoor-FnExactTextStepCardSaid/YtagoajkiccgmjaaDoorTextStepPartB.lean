/- What functions of the given program compute, each proved once, for the law that is proved in YtagoajkiccgmjaaDoorTextStep: whatever their arguments, under the conditions that each theorem names. -/
import Derived.Test.YtagoajkiccgmjaaDoorTextStepPartA
set_option linter.unusedVariables false
set_option linter.unusedSimpArgs false
namespace Go.Proofs.YtagoajkiccgmjaaDoor
open Go.Mv Go.RowKit

/-! ### The words of a call read -/
theorem i_quoted_q {k : ByteArray} (hk : k.size ≤ 4096) : i_quoted (quote k) = some k := by
  simp only [i_quoted, wi_quoted, W.D, i_Unquote_q hk]
theorem i_quoted_some (w : ByteArray) (h : w.size ≤ 1048576) : ∃ t, i_quoted w = some t := by
  obtain ⟨t, e, _⟩ := i_quoted_ex w h
  exact ⟨t, e⟩
theorem getI_none {α : Type} : getI ([] : List α) 0 = none := rfl
theorem i_textCall_some (ws : List ByteArray) (hm : ∀ w ∈ ws, w.size ≤ 1048576) : ∃ c, i_textCall ws = some c := by
  simp only [i_textCall, wi_textCall, W.D, i_TextNum_eq]
  match ws, hm with
  | [], hm => exact ⟨_, rfl⟩
  | [w], hm =>
    simp only [show getI [w] 0 = some w from rfl, show (((([w] : List ByteArray).length : Nat) : Int) == 1) = true from rfl, show (((([w] : List ByteArray).length : Nat) : Int) == 2) = false from rfl, show (((([w] : List ByteArray).length : Nat) : Int) == 3) = false from rfl, show (((([w] : List ByteArray).length : Nat) : Int) == 4) = false from rfl, cond_true, cond_false, W.D]
    exact ⟨_, rfl⟩
  | [w, a], hm =>
    obtain ⟨t, ht⟩ := i_quoted_some a (hm a (by simp))
    simp only [show getI [w, a] 0 = some w from rfl, show getI [w, a] 1 = some a from rfl, ht, show (((([w, a] : List ByteArray).length : Nat) : Int) == 1) = false from rfl, show (((([w, a] : List ByteArray).length : Nat) : Int) == 2) = true from rfl, show (((([w, a] : List ByteArray).length : Nat) : Int) == 3) = false from rfl, show (((([w, a] : List ByteArray).length : Nat) : Int) == 4) = false from rfl, cond_true, cond_false, W.D]
    exact ⟨_, rfl⟩
  | [w, a, b], hm =>
    obtain ⟨t, ht⟩ := i_quoted_some a (hm a (by simp))
    obtain ⟨u, hu⟩ := i_quoted_some b (hm b (by simp))
    simp only [show getI [w, a, b] 0 = some w from rfl, show getI [w, a, b] 1 = some a from rfl, show getI [w, a, b] 2 = some b from rfl, ht, hu, show (((([w, a, b] : List ByteArray).length : Nat) : Int) == 1) = false from rfl, show (((([w, a, b] : List ByteArray).length : Nat) : Int) == 2) = false from rfl, show (((([w, a, b] : List ByteArray).length : Nat) : Int) == 3) = true from rfl, show (((([w, a, b] : List ByteArray).length : Nat) : Int) == 4) = false from rfl, cond_true, cond_false, W.D]
    exact ⟨_, rfl⟩
  | [w, a, b, c], hm =>
    obtain ⟨t, ht⟩ := i_quoted_some a (hm a (by simp))
    obtain ⟨u, hu⟩ := i_quoted_some b (hm b (by simp))
    simp only [show getI [w, a, b, c] 0 = some w from rfl, show getI [w, a, b, c] 1 = some a from rfl, show getI [w, a, b, c] 2 = some b from rfl, show getI [w, a, b, c] 3 = some c from rfl, ht, hu, show (((([w, a, b, c] : List ByteArray).length : Nat) : Int) == 1) = false from rfl, show (((([w, a, b, c] : List ByteArray).length : Nat) : Int) == 2) = false from rfl, show (((([w, a, b, c] : List ByteArray).length : Nat) : Int) == 3) = false from rfl, show (((([w, a, b, c] : List ByteArray).length : Nat) : Int) == 4) = true from rfl, cond_true, cond_false, W.D]
    exact ⟨_, rfl⟩
  | w :: a :: b :: c :: d :: r, hm =>
    have hl : ∀ n : Int, n ≤ 4 → (((((w :: a :: b :: c :: d :: r) : List ByteArray).length : Nat) : Int) == n) = false := fun n hn => by
      rw [beq_eq_false_iff_ne]; simp only [List.length_cons]; omega
    simp only [hl 1 (by decide), hl 2 (by decide), hl 3 (by decide), hl 4 (by decide), cond_false, W.D]
    exact ⟨_, rfl⟩
theorem i_textCall_q {c : Call} (h : cOk c = true) : i_textCall (callW c) = some c := by
  simp only [i_textCall, wi_textCall, W.D, i_TextNum_eq]
  rcases cOk_is h with rfl | rfl | rfl | ⟨hk, ha⟩
  · rw [show callW ⟨1, ask0 0 ⟨#[]⟩ ⟨#[]⟩⟩ = [(⟨#[98, 101, 103, 105, 110]⟩ : ByteArray)] from rfl]
    simp only [show ∀ w : ByteArray, getI [w] 0 = some w from fun _ => rfl, show ∀ w : ByteArray, (((([w] : List ByteArray).length : Nat) : Int) == 1) = true from fun _ => rfl, cond_true, W.D]
    rw [lit_eq (v := true) rfl]
    rfl
  · rw [show callW ⟨3, ask0 0 ⟨#[]⟩ ⟨#[]⟩⟩ = [(⟨#[99, 111, 109, 109, 105, 116]⟩ : ByteArray)] from rfl]
    simp only [show ∀ w : ByteArray, getI [w] 0 = some w from fun _ => rfl, show ∀ w : ByteArray, (((([w] : List ByteArray).length : Nat) : Int) == 1) = true from fun _ => rfl, cond_true, W.D]
    rw [lit_eq (v := false) rfl, lit_eq (v := true) rfl]
    rfl
  · rw [show callW ⟨4, ask0 0 ⟨#[]⟩ ⟨#[]⟩⟩ = [(⟨#[97, 98, 111, 114, 116]⟩ : ByteArray)] from rfl]
    simp only [show ∀ w : ByteArray, getI [w] 0 = some w from fun _ => rfl, show ∀ w : ByteArray, (((([w] : List ByteArray).length : Nat) : Int) == 1) = true from fun _ => rfl, cond_true, W.D]
    rw [lit_eq (v := false) rfl, lit_eq (v := false) rfl, lit_eq (v := true) rfl]
    rfl
  · obtain ⟨kind, ask⟩ := c
    simp only at hk ha
    subst hk
    have e1 : callW ⟨2, ask⟩ = askW ask := rfl
    rw [e1]
    rcases aOk_is ha with ⟨k1, k2, k3⟩ | ⟨k1, k2, k3, k4⟩ | ⟨k1, k2, k3⟩ | ⟨k1, k2, k3, k4, k5, k6⟩
    · have e2 : askW ask = [(⟨#[103, 101, 116]⟩ : ByteArray), quote ask.key] := by simp [askW, k1]
      rw [e2]
      simp only [show ∀ w a : ByteArray, getI [w, a] 0 = some w from fun _ _ => rfl, show ∀ w a : ByteArray, getI [w, a] 1 = some a from fun _ _ => rfl, show ∀ w a : ByteArray, (((([w, a] : List ByteArray).length : Nat) : Int) == 1) = false from fun _ _ => rfl, show ∀ w a : ByteArray, (((([w, a] : List ByteArray).length : Nat) : Int) == 2) = true from fun _ _ => rfl, cond_true, cond_false, W.D, i_quoted_q (show ask.key.size ≤ 4096 by omega)]
      rw [lit_eq (v := true) rfl, k2]
      rfl
    · have e2 : askW ask = [(⟨#[112, 117, 116]⟩ : ByteArray), quote ask.key, quote ask.val] := by simp [askW, k1]
      rw [e2]
      simp only [show ∀ w a b : ByteArray, getI [w, a, b] 0 = some w from fun _ _ _ => rfl, show ∀ w a b : ByteArray, getI [w, a, b] 1 = some a from fun _ _ _ => rfl, show ∀ w a b : ByteArray, getI [w, a, b] 2 = some b from fun _ _ _ => rfl, show ∀ w a b : ByteArray, (((([w, a, b] : List ByteArray).length : Nat) : Int) == 1) = false from fun _ _ _ => rfl, show ∀ w a b : ByteArray, (((([w, a, b] : List ByteArray).length : Nat) : Int) == 2) = false from fun _ _ _ => rfl, show ∀ w a b : ByteArray, (((([w, a, b] : List ByteArray).length : Nat) : Int) == 3) = true from fun _ _ _ => rfl, cond_true, cond_false, W.D, i_quoted_q (show ask.key.size ≤ 4096 by omega), i_quoted_q (show ask.val.size ≤ 4096 by omega)]
      rw [lit_eq (v := true) rfl, k2]
      rfl
    · have e2 : askW ask = [(⟨#[100, 101, 108]⟩ : ByteArray), quote ask.key] := by simp [askW, k1]
      rw [e2]
      simp only [show ∀ w a : ByteArray, getI [w, a] 0 = some w from fun _ _ => rfl, show ∀ w a : ByteArray, getI [w, a] 1 = some a from fun _ _ => rfl, show ∀ w a : ByteArray, (((([w, a] : List ByteArray).length : Nat) : Int) == 1) = false from fun _ _ => rfl, show ∀ w a : ByteArray, (((([w, a] : List ByteArray).length : Nat) : Int) == 2) = true from fun _ _ => rfl, cond_true, cond_false, W.D, i_quoted_q (show ask.key.size ≤ 4096 by omega)]
      rw [lit_eq (v := false) rfl, lit_eq (v := true) rfl, k2]
      rfl
    · have e2 : askW ask = [bif ask.back then (⟨#[98, 97, 99, 107]⟩ : ByteArray) else (⟨#[115, 99, 97, 110]⟩ : ByteArray), quote ask.range.lo, quote ask.range.hi, numText ask.most] := by simp [askW, k1]
      rw [e2]
      generalize hw : (bif ask.back then (⟨#[98, 97, 99, 107]⟩ : ByteArray) else (⟨#[115, 99, 97, 110]⟩ : ByteArray)) = w
      simp only [show ∀ w a b c : ByteArray, getI [w, a, b, c] 0 = some w from fun _ _ _ _ => rfl, show ∀ w a b c : ByteArray, getI [w, a, b, c] 1 = some a from fun _ _ _ _ => rfl, show ∀ w a b c : ByteArray, getI [w, a, b, c] 2 = some b from fun _ _ _ _ => rfl, show ∀ w a b c : ByteArray, getI [w, a, b, c] 3 = some c from fun _ _ _ _ => rfl, show ∀ w a b c : ByteArray, (((([w, a, b, c] : List ByteArray).length : Nat) : Int) == 1) = false from fun _ _ _ _ => rfl, show ∀ w a b c : ByteArray, (((([w, a, b, c] : List ByteArray).length : Nat) : Int) == 2) = false from fun _ _ _ _ => rfl, show ∀ w a b c : ByteArray, (((([w, a, b, c] : List ByteArray).length : Nat) : Int) == 3) = false from fun _ _ _ _ => rfl, show ∀ w a b c : ByteArray, (((([w, a, b, c] : List ByteArray).length : Nat) : Int) == 4) = true from fun _ _ _ _ => rfl, cond_true, cond_false, W.D, i_quoted_q (show ask.range.lo.size ≤ 4096 by omega), i_quoted_q (show ask.range.hi.size ≤ 4096 by omega), textNum_num (l01_of (m := ask.most) (by omega) (by omega))]
      obtain ⟨ak, akey, aval, ⟨alo, ahi⟩, amost, aback⟩ := ask
      cases k2
      cases aback with
      | false =>
        rw [cond_false] at hw
        subst hw
        rw [lit_eq (v := true) rfl, lit_eq (v := false) rfl]
        rfl
      | true =>
        rw [cond_true] at hw
        subst hw
        rw [lit_eq (v := false) rfl, lit_eq (v := true) rfl]
        rfl

/-! ### The kind of a step read -/
theorem words_inj : ∀ i j : Fin 10, ([(⟨#[]⟩ : ByteArray), (⟨#[99, 97, 108, 108]⟩ : ByteArray), (⟨#[100, 101, 108, 105, 118, 101, 114]⟩ : ByteArray), (⟨#[108, 111, 115, 101]⟩ : ByteArray), (⟨#[100, 111, 117, 98, 108, 101]⟩ : ByteArray), (⟨#[116, 105, 99, 107]⟩ : ByteArray), (⟨#[100, 111, 119, 110]⟩ : ByteArray), (⟨#[116, 111, 114, 110]⟩ : ByteArray), (⟨#[117, 112]⟩ : ByteArray), (⟨#[99, 97, 108, 109]⟩ : ByteArray)] : List ByteArray)[i.1]?.getD ⟨#[]⟩ = ([(⟨#[]⟩ : ByteArray), (⟨#[99, 97, 108, 108]⟩ : ByteArray), (⟨#[100, 101, 108, 105, 118, 101, 114]⟩ : ByteArray), (⟨#[108, 111, 115, 101]⟩ : ByteArray), (⟨#[100, 111, 117, 98, 108, 101]⟩ : ByteArray), (⟨#[116, 105, 99, 107]⟩ : ByteArray), (⟨#[100, 111, 119, 110]⟩ : ByteArray), (⟨#[116, 111, 114, 110]⟩ : ByteArray), (⟨#[117, 112]⟩ : ByteArray), (⟨#[99, 97, 108, 109]⟩ : ByteArray)] : List ByteArray)[j.1]?.getD ⟨#[]⟩ → i = j := by decide +kernel
theorem elW_inj {i j : Int} (hi : 0 ≤ i ∧ i ≤ 9) (hj : 0 ≤ j ∧ j ≤ 9) (h : elW i = elW j) : i = j := by
  unfold elW at h
  rw [wordsS_is] at h
  have := congrArg Fin.val (words_inj ⟨i.toNat, by omega⟩ ⟨j.toNat, by omega⟩ h)
  simp only at this
  omega
theorem getI_words0 {k : Int} (h : 0 ≤ k ∧ k ≤ 9) : getI wordsS k = some (elW k) := by
  by_cases e : k = 0
  · subst e; rw [elW, wordsS_is]; rfl
  · exact getI_words ⟨by omega, h.2⟩
theorem wordsS_len : wordsS.length = 10 := by rw [wordsS_is]; rfl
theorem weq (a b : ByteArray) : (a.toList == b.toList) = decide (a = b) := by
  by_cases h : a = b
  · subst h; simp
  · rw [decide_eq_false h, beq_eq_false_iff_ne]
    exact fun e => h (ba_ext e)
theorem s_loopKind (p w : ByteArray) (ws : List ByteArray) (hw : getI ws 0 = some w) : ∃ r, loopT (fun s => (Bs_TextStep_1 p ws wordsS s).den) ⟨0, 0⟩ = some r ∧ ∀ k, 1 ≤ k → k ≤ 9 → elW k = w → r = k := by
  refine loopT_ex (f := fun s => (Bs_TextStep_1 p ws wordsS s).den) (fun r : Int => ∀ k, 1 ≤ k → k ≤ 9 → elW k = w → r = k) (fun s : Ss_TextStep_1 => 0 ≤ s.v14 ∧ s.v14 ≤ 10 ∧ ∀ k, 1 ≤ k → k < s.v14 → elW k = w → s.w4_0_0 = k) (fun s => (10 - s.v14).toNat) (fun s hs => ?_) ⟨0, 0⟩ ⟨by decide, by decide, fun k h1 h2 => by simp only at h2; omega⟩
  obtain ⟨i, cur⟩ := s
  obtain ⟨h0, h1, h2⟩ := hs
  simp only at h0 h1 h2
  simp only [Bs_TextStep_1, W.D, hw, wordsS_len]
  by_cases h : i < 10
  · right
    rw [show decide (i < ((10 : Nat) : Int)) = true from decide_eq_true h, cond_true, getI_words0 ⟨h0, by omega⟩]
    simp only [W.D]
    rw [wrapL _ (by omega) (by omega), weq]
    refine ⟨_, rfl, ⟨by simp only; omega, by simp only; omega, fun k k1 k2 e => ?_⟩, by simp only; omega⟩
    simp only at k2 ⊢
    by_cases hk : k = i
    · subst hk
      rw [decide_eq_true (by omega : k > 0), decide_eq_true e]
      rfl
    · have hx : elW i ≠ w := fun e2 => hk (elW_inj ⟨by omega, by omega⟩ ⟨by omega, by omega⟩ (e.trans e2.symm))
      rw [decide_eq_false hx]
      have := h2 k k1 (by omega) e
      cases decide (i > 0) <;> exact this
  · left
    rw [show decide (i < ((10 : Nat) : Int)) = false from decide_eq_false h, cond_false]
    exact ⟨_, rfl, fun k k1 k2 e => h2 k k1 (by omega) e⟩
theorem i_loopKind (p w : ByteArray) (ws : List ByteArray) (hw : getI ws 0 = some w) : ∃ r, loopT (fun s => (Bi_TextStep_1 p ws s).den) ⟨2, 0⟩ = some r ∧ ∀ k, 2 ≤ k → k ≤ 9 → elW k = w → r = k := by
  refine loopT_ex (f := fun s => (Bi_TextStep_1 p ws s).den) (fun r : Int => ∀ k, 2 ≤ k → k ≤ 9 → elW k = w → r = k) (fun s : Si_TextStep_1 => 2 ≤ s.v6 ∧ s.v6 ≤ 10 ∧ ∀ k, 2 ≤ k → k < s.v6 → elW k = w → s.w5_0_0 = k) (fun s => (10 - s.v6).toNat) (fun s hs => ?_) ⟨2, 0⟩ ⟨by decide, by decide, fun k h1 h2 => by simp only at h2; omega⟩
  obtain ⟨i, cur⟩ := s
  obtain ⟨h0, h1, h2⟩ := hs
  simp only at h0 h1 h2
  simp only [Bi_TextStep_1, W.D, hw, i_wordOf_eq]
  by_cases h : i ≤ 9
  · right
    rw [decide_eq_true h, cond_true, wrapL _ (by omega) (by omega), weq, (wordOf_el ⟨h0, h⟩).1]
    refine ⟨_, rfl, ⟨by simp only; omega, by simp only; omega, fun k k1 k2 e => ?_⟩, by simp only; omega⟩
    simp only at k2 ⊢
    by_cases hk : k = i
    · subst hk
      rw [decide_eq_true e]
      rfl
    · have hx : elW i ≠ w := fun e2 => hk (elW_inj ⟨by omega, by omega⟩ ⟨by omega, by omega⟩ (e.trans e2.symm))
      rw [decide_eq_false hx]
      exact h2 k k1 (by omega) e
  · left
    rw [decide_eq_false h, cond_false]
    exact ⟨_, rfl, fun k k1 k2 e => h2 k k1 (by omega) e⟩
end Go.Proofs.YtagoajkiccgmjaaDoor
namespace Go.Proofs.YtagoajkiccgmjaaDoor
open Go.Mv Go.RowKit

/-! ### A step read -/
noncomputable def step0 : Step := ⟨0, 0, 0, [], call0⟩
noncomputable def numsOf3 (ws : List ByteArray) : List Int := (ws.drop 3).map fun w => (textNum w).1
theorem s_loopKeep (p : ByteArray) (ws : List ByteArray) (j r : Int) (x : Xs_TextStep_5) (r' : Int) (hl : ws.length ≤ 1048577) : loopT (fun s => (Bs_TextStep_2 p ws j r x r' s).den) ⟨3, []⟩ = some (numsOf3 ws) := by
  refine (loopT_val (fun s : Ss_TextStep_2 => some (s.w4_0_3 ++ (ws.drop s.v8.toNat).map fun w => (textNum w).1)) (fun s => ∃ k : Nat, s.v8 = k ∧ k ≤ 1048578 ∧ s.w4_0_3.length ≤ k) (fun s => ws.length - s.v8.toNat) (fun s hs => ?_) ⟨3, []⟩ ⟨3, rfl, by decide, by simp⟩).trans (by simp [numsOf3])
  obtain ⟨v8, v3⟩ := s
  obtain ⟨k, hk, hkl, hv⟩ := hs
  simp only at hk hv
  subst hk
  simp only [Bs_TextStep_2, W.D, s_l14Num_eq, Int.toNat_natCast]
  by_cases h : k < ws.length
  · right
    obtain ⟨w, hx, hd⟩ := getI_drop h
    rw [getI_nat] at hx
    rw [decide_eq_true (by omega : (k : Int) < (ws.length : Int)), cond_true, if_pos (by simp only [List.length_cons, List.length_nil]; omega), wrapL _ (by omega) (by omega), hd]
    refine ⟨_, rfl, ⟨k + 1, by simp, by omega, by simp only [List.length_append, List.length_cons, List.length_nil]; omega⟩, by simp only; omega, ?_⟩
    have hn : numAt ws k = (textNum w).1 := by unfold numAt; rw [hx]
    rw [hn]
    simp only [List.map_cons, List.append_assoc, List.singleton_append]
    rfl
  · left
    rw [decide_eq_false (by omega), cond_false]
    exact ⟨_, rfl, by rw [List.drop_eq_nil_of_le (by omega)]; simp⟩
theorem i_loopKeep (ws : List ByteArray) (hl : ws.length ≤ 1048577) : loopT (fun s => (Bi_TextStep_2 ws s).den) ⟨0, []⟩ = some (numsOf3 ws) := by
  have hd3 : (ws.take ws.length).drop 3 = ws.drop 3 := by rw [List.take_of_length_le (Nat.le_refl _)]
  generalize hv : ws.drop 3 = vs at *
  have hvl : vs.length ≤ 1048577 := by rw [← hv, List.length_drop]; omega
  have hfin : numsOf3 ws = vs.map fun w => (textNum w).1 := by rw [numsOf3, hv]
  rw [hfin]
  refine (loopT_val (fun s : Si_TextStep_2 => some (s.w5_0_3 ++ (vs.drop s.v70.toNat).map fun w => (textNum w).1)) (fun s => ∃ k : Nat, s.v70 = k ∧ k ≤ vs.length ∧ s.w5_0_3.length ≤ k) (fun s => vs.length - s.v70.toNat) (fun s hs => ?_) ⟨0, []⟩ ⟨0, rfl, Nat.zero_le _, by simp⟩).trans (by simp)
  obtain ⟨v70, v3⟩ := s
  obtain ⟨k, hk, hkl, hv⟩ := hs
  simp only at hk hv
  subst hk
  simp only [Bi_TextStep_2, W.D, i_TextNum_eq, Int.toNat_natCast, hd3]
  by_cases h : k < vs.length
  · right
    obtain ⟨w, hx, hd⟩ := getI_drop h
    rw [decide_eq_true (by omega : (k : Int) < (vs.length : Int)), cond_true, hx, hd]
    simp only [W.D]
    rw [if_pos (by simp only [List.length_cons, List.length_nil]; omega), wrapL _ (by omega) (by omega)]
    refine ⟨_, rfl, ⟨k + 1, by simp, by omega, by simp only [List.length_append, List.length_cons, List.length_nil]; omega⟩, by simp only; omega, ?_⟩
    simp only [List.map_cons, List.append_assoc, List.singleton_append]
    rfl
  · left
    rw [decide_eq_false (by omega), cond_false]
    exact ⟨_, rfl, by rw [List.drop_eq_nil_of_le (by omega)]; simp⟩
theorem numsOf3_len (ws : List ByteArray) (hl : ws.length ≤ 1048577) : (numsOf3 ws).length ≤ 1048576 := by
  rw [numsOf3, List.length_map, List.length_drop]; omega
theorem nums_of : ∀ l : List Int, l.all l01Num = true → (l.map numText).map (fun w => (textNum w).1) = l
  | [], _ => rfl
  | n :: l, h => by
    rw [List.all_cons, Bool.and_eq_true] at h
    rw [List.map_cons, List.map_cons, nums_of l h.2, textNum_num h.1]
/-- What a text gives: the step, if it is written so again. -/
noncomputable def gives14 (p : ByteArray) (x : Step) : Step × Bool := bif (bif p.toList == (⟨#[]⟩ : ByteArray).toList then true else !((stS x).toList == p.toList)) then (step0, false) else (x, true)
def Reads (p : ByteArray) (x : Step) : Prop := ∀ y, stS y = p → p ≠ ⟨#[]⟩ → x = y
theorem callW_pos {c : Call} (h : cOk c = true) : 1 ≤ (callW c).length := by
  have := (callW_ok h).2
  cases hw : callW c with
  | nil => exact absurd hw this
  | cons x xs => simp
theorem s_TextStep_ex (p : ByteArray) (hp : p.size ≤ 1048576) : ∃ x, s_TextStep p = some (gives14 p x) ∧ x.keep.length ≤ 1048576 ∧ Reads p x := by
  have hs := s_l07Parts_eq 32 p hp
  rw [show (((32 : UInt8).toNat : Nat) : Int) = 32 from rfl] at hs
  have hl := ptsB_len 32 p
  have hm : ∀ w ∈ ptsB 32 p, w.size ≤ 1048576 := fun w hw => Nat.le_trans (ptsB_mem hw) hp
  have hne := ptsB_ne 32 p
  have hcase := fun (y : Step) (h : stS y = p) (h2 : p ≠ ⟨#[]⟩) => st_cases h h2
  simp only [s_TextStep, ws_TextStep, W.D, hs, s_l14Words_eq]
  generalize ptsB 32 p = ws at *
  obtain ⟨w0, hw0⟩ : ∃ w, getI ws 0 = some w := by
    cases ws with
    | nil => exact absurd rfl hne
    | cons w r => exact ⟨w, rfl⟩
  obtain ⟨j, hj, gj⟩ := s_loopKind p w0 ws hw0
  rw [hj]
  simp only [W.D]
  rw [show s_l14Num ws 1 = some (numAt ws 1) from s_l14Num_eq ws 1, show s_l14Num ws 2 = some (numAt ws 2) from s_l14Num_eq ws 2]
  simp only [W.D]
  have htk : ((ws.take ((ws.length : Int)).toNat).drop 2) = ws.drop 2 := by rw [Int.toNat_natCast, List.take_of_length_le (Nat.le_refl _)]
  rw [htk]
  obtain ⟨c, hc, gc⟩ := s_l14ReadCall_ex (ws.drop 2) fun w hw => hm w (List.mem_of_mem_drop hw)
  rw [hc]
  have hcond : (bif (bif j == 1 then decide ((ws.length : Int) > 2) else false) then (if 0 ≤ (2 : Int) ∧ (2 : Int) ≤ (ws.length : Int) ∧ (ws.length : Int) ≤ (ws.length : Int) then Mv.bnd (some c) (fun r => some (⟨r.kind, r.ask.kind, r.ask.key, r.ask.val, r.ask.range.lo, r.ask.range.hi, r.ask.most, r.ask.back⟩ : Xs_TextStep_5)) else none) else some (⟨0, 0, ⟨#[]⟩, ⟨#[]⟩, ⟨#[]⟩, ⟨#[]⟩, 0, false⟩ : Xs_TextStep_5)) =
      some ((fun r : Call => (⟨r.kind, r.ask.kind, r.ask.key, r.ask.val, r.ask.range.lo, r.ask.range.hi, r.ask.most, r.ask.back⟩ : Xs_TextStep_5)) (bif (bif j == 1 then decide ((ws.length : Int) > 2) else false) then c else call0)) := by
    cases hb : (bif j == 1 then decide ((ws.length : Int) > 2) else false) with
    | false => rfl
    | true =>
      have : (ws.length : Int) > 2 := by
        cases hj1 : (j == 1) with
        | false => rw [hj1] at hb; cases hb
        | true => rw [hj1, cond_true] at hb; exact of_decide_eq_true hb
      rw [cond_true, if_pos (by omega)]
      rfl
  rw [hcond]
  simp only [W.D, s_loopKeep p ws j _ _ _ (by omega)]
  have hx : ∀ (b : Int) (keep : List Int), b = (bif j == 7 then numAt ws 2 else 0) → keep = (bif j == 7 then numsOf3 ws else []) → ∃ x, some (bif (bif p.toList == (⟨#[]⟩ : ByteArray).toList then true else !((stS ⟨j, numAt ws 1, b, keep, bif (bif j == 1 then decide ((ws.length : Int) > 2) else false) then c else call0⟩).toList == p.toList)) then (step0, false) else ((⟨j, numAt ws 1, b, keep, bif (bif j == 1 then decide ((ws.length : Int) > 2) else false) then c else call0⟩ : Step), true)) = some (gives14 p x) ∧ x.keep.length ≤ 1048576 ∧ Reads p x := fun b keep hb hk => by
    refine ⟨_, rfl, ?_, fun y hy hne' => ?_⟩
    · simp only
      rw [hk]
      cases (j == 7) with
      | true => exact numsOf3_len ws (by omega)
      | false => exact Nat.zero_le _
    · rcases hcase y hy hne' with ⟨e, e1, e2, e3⟩ | ⟨e, e3⟩ | ⟨e, e1, e2, e4, e3⟩ | ⟨e1, e2, e5, e7, e, e4, e3⟩
      · have hw : w0 = elW 1 := by rw [e3] at hw0; exact (Option.some.inj hw0).symm
        have hj1 : j = 1 := gj 1 (by decide) (by decide) hw.symm
        have hc1 := gc y.call e1 (by rw [e3]; rfl)
        have hlen := callW_pos e1
        have h2 : (ws.length : Int) > 2 := by rw [e3]; simp only [List.length_cons]; omega
        have hn : numAt ws 1 = y.a := by rw [e3]; show (textNum (numText y.a)).1 = y.a; rw [textNum_num e2]
        rw [hb, hk, hj1, hn, hc1, decide_eq_true h2]
        exact e.symm
      · have hw : w0 = elW 5 := by rw [e3] at hw0; exact (Option.some.inj hw0).symm
        have hj1 : j = 5 := gj 5 (by decide) (by decide) hw.symm
        have hn : numAt ws 1 = 0 := by rw [e3]; rfl
        rw [hb, hk, hj1, hn]
        exact e.symm
      · have hw : w0 = elW 7 := by rw [e3] at hw0; exact (Option.some.inj hw0).symm
        have hj1 : j = 7 := gj 7 (by decide) (by decide) hw.symm
        have hn : numAt ws 1 = y.a := by rw [e3]; show (textNum (numText y.a)).1 = y.a; rw [textNum_num e1]
        have hn2 : numAt ws 2 = y.b := by rw [e3]; show (textNum (numText y.b)).1 = y.b; rw [textNum_num e2]
        have hn3 : numsOf3 ws = y.keep := by rw [numsOf3, e3]; exact nums_of _ e4
        rw [hb, hk, hj1, hn, hn2, hn3]
        exact e.symm
      · have hw : w0 = elW y.kind := by rw [e3] at hw0; exact (Option.some.inj hw0).symm
        have hj1 : j = y.kind := gj y.kind (by omega) e2 hw.symm
        have hn : numAt ws 1 = y.a := by rw [e3]; show (textNum (numText y.a)).1 = y.a; rw [textNum_num e4]
        have hk1 : (j == 1) = false := by rw [beq_eq_false_iff_ne]; omega
        have hk7 : (j == 7) = false := by rw [beq_eq_false_iff_ne]; omega
        rw [hb, hk, hk1, hk7, hn, hj1]
        exact e.symm
  cases h7 : (j == 7) with
  | true =>
    rw [cond_true]
    simp only [W.D]
    rw [show s_StepText _ = some (stS ⟨j, numAt ws 1, numAt ws 2, numsOf3 ws, bif (bif j == 1 then decide ((ws.length : Int) > 2) else false) then c else call0⟩) from s_StepText_eq _ (numsOf3_len ws (by omega))]
    simp only [W.D]
    exact hx _ _ (by rw [h7]; rfl) (by rw [h7]; rfl)
  | false =>
    rw [cond_false]
    simp only [W.D]
    rw [show s_StepText _ = some (stS ⟨j, numAt ws 1, 0, [], bif (bif j == 1 then decide ((ws.length : Int) > 2) else false) then c else call0⟩) from s_StepText_eq _ (Nat.zero_le _)]
    simp only [W.D]
    exact hx _ _ (by rw [h7]; rfl) (by rw [h7]; rfl)
end Go.Proofs.YtagoajkiccgmjaaDoor
namespace Go.Proofs.YtagoajkiccgmjaaDoor
open Go.Mv Go.RowKit

theorem call_is (w : ByteArray) : (w.toList == (⟨#[99, 97, 108, 108]⟩ : ByteArray).toList) = decide (w = elW 1) := by rw [elW_call, weq]
theorem i_TextStep_ex (p : ByteArray) (hp : p.size ≤ 1048576) : ∃ x, i_TextStep p = some (gives14 p x) ∧ x.keep.length ≤ 1048576 ∧ Reads p x := by
  have hs := st_Split_eq 32 p hp
  have hl := ptsB_len 32 p
  have hm : ∀ w ∈ ptsB 32 p, w.size ≤ 1048576 := fun w hw => Nat.le_trans (ptsB_mem hw) hp
  have hne := ptsB_ne 32 p
  have hcase := fun (y : Step) (h : stS y = p) (h2 : p ≠ ⟨#[]⟩) => st_cases h h2
  simp only [i_TextStep, wi_TextStep, W.D, hs, i_TextNum_eq]
  generalize ptsB 32 p = ws at *
  obtain ⟨w0, hw0⟩ : ∃ w, getI ws 0 = some w := by
    cases ws with
    | nil => exact absurd rfl hne
    | cons w r => exact ⟨w, rfl⟩
  obtain ⟨j, hj, gj⟩ := i_loopKind p w0 ws hw0
  rw [hj, hw0]
  simp only [W.D, call_is]
  have ha : (bif decide ((ws.length : Int) > 1) then Mv.bnd (getI ws 1) (fun r => some (textNum r).1) else some 0) = some (numAt ws 1) := by
    unfold numAt
    by_cases h : 1 < ws.length
    · rw [decide_eq_true (by omega : (ws.length : Int) > 1), cond_true, show getI ws 1 = some ws[1] from getI_at (k := 1) (List.getElem?_eq_getElem h), List.getElem?_eq_getElem h]
      rfl
    · rw [decide_eq_false (by omega : ¬ (ws.length : Int) > 1), cond_false, List.getElem?_eq_none (by omega)]
  rw [ha]
  simp only [W.D]
  have htk : ((ws.take ((ws.length : Int)).toNat).drop 2) = ws.drop 2 := by rw [Int.toNat_natCast, List.take_of_length_le (Nat.le_refl _)]
  rw [htk]
  obtain ⟨c, hc⟩ := i_textCall_some (ws.drop 2) fun w hw => hm w (List.mem_of_mem_drop hw)
  rw [hc]
  generalize hq : (bif decide (w0 = elW 1) then decide ((ws.length : Int) > 2) else false) = q
  have hq2 : q = true → w0 = elW 1 ∧ 2 < ws.length := fun h => by
    subst hq
    by_cases e : w0 = elW 1
    · rw [decide_eq_true e, cond_true] at h
      have := of_decide_eq_true h
      exact ⟨e, by omega⟩
    · rw [decide_eq_false e] at h; cases h
  have hcond : (bif q then (if 0 ≤ (2 : Int) ∧ (2 : Int) ≤ (ws.length : Int) ∧ (ws.length : Int) ≤ (ws.length : Int) then Mv.bnd (some c) (fun r => some (⟨1, r.kind, r.ask.kind, r.ask.key, r.ask.val, r.ask.range.lo, r.ask.range.hi, r.ask.most, r.ask.back⟩ : Xi_TextStep_5)) else none) else some (⟨j, 0, 0, ⟨#[]⟩, ⟨#[]⟩, ⟨#[]⟩, ⟨#[]⟩, 0, false⟩ : Xi_TextStep_5)) =
      some ((fun r : Call => (⟨bif q then 1 else j, r.kind, r.ask.kind, r.ask.key, r.ask.val, r.ask.range.lo, r.ask.range.hi, r.ask.most, r.ask.back⟩ : Xi_TextStep_5)) (bif q then c else call0)) := by
    cases q with
    | false => rfl
    | true =>
      rw [cond_true, if_pos (by have := (hq2 rfl).2; omega)]
      rfl
  rw [hcond]
  simp only [W.D, i_loopKeep ws (by omega)]
  have hx : ∀ (b : Int) (keep : List Int), b = (bif (bif (bif q then 1 else j) == 7 then decide ((ws.length : Int) > 2) else false) then numAt ws 2 else 0) → keep = (bif (bif (bif q then 1 else j) == 7 then decide ((ws.length : Int) > 2) else false) then numsOf3 ws else []) → ∃ x, some (bif (bif p.toList == (⟨#[]⟩ : ByteArray).toList then true else !((stS ⟨bif q then 1 else j, numAt ws 1, b, keep, bif q then c else call0⟩).toList == p.toList)) then (step0, false) else ((⟨bif q then 1 else j, numAt ws 1, b, keep, bif q then c else call0⟩ : Step), true)) = some (gives14 p x) ∧ x.keep.length ≤ 1048576 ∧ Reads p x := fun b keep hb hk => by
    refine ⟨_, rfl, ?_, fun y hy hne' => ?_⟩
    · simp only
      rw [hk]
      cases (bif (bif q then 1 else j) == 7 then decide ((ws.length : Int) > 2) else false) with
      | true => exact numsOf3_len ws (by omega)
      | false => exact Nat.zero_le _
    · rcases hcase y hy hne' with ⟨e, e1, e2, e3⟩ | ⟨e, e3⟩ | ⟨e, e1, e2, e4, e3⟩ | ⟨e1, e2, e5, e7, e, e4, e3⟩
      · have hw : w0 = elW 1 := by rw [e3] at hw0; exact (Option.some.inj hw0).symm
        have hlen := callW_pos e1
        have h2 : (ws.length : Int) > 2 := by rw [e3]; simp only [List.length_cons]; omega
        have hq1 : q = true := by rw [← hq, decide_eq_true hw, decide_eq_true h2]; rfl
        have hc1 : c = y.call := by
          have : ws.drop 2 = callW y.call := by rw [e3]; rfl
          rw [this, i_textCall_q e1] at hc
          exact (Option.some.inj hc).symm
        have hn : numAt ws 1 = y.a := by rw [e3]; show (textNum (numText y.a)).1 = y.a; rw [textNum_num e2]
        rw [hb, hk, hq1, hn, hc1]
        exact e.symm
      · have hw : w0 = elW 5 := by rw [e3] at hw0; exact (Option.some.inj hw0).symm
        have hj1 : j = 5 := gj 5 (by decide) (by decide) hw.symm
        have hq1 : q = false := by
          cases q with
          | false => rfl
          | true => have := elW_inj (by decide) (by decide) (hw.symm.trans (hq2 rfl).1); omega
        have hn : numAt ws 1 = 0 := by rw [e3]; rfl
        rw [hb, hk, hq1, hj1, hn]
        exact e.symm
      · have hw : w0 = elW 7 := by rw [e3] at hw0; exact (Option.some.inj hw0).symm
        have hj1 : j = 7 := gj 7 (by decide) (by decide) hw.symm
        have hq1 : q = false := by
          cases q with
          | false => rfl
          | true => have := elW_inj (by decide) (by decide) (hw.symm.trans (hq2 rfl).1); omega
        have h2 : (ws.length : Int) > 2 := by rw [e3]; simp only [List.length_cons]; omega
        have hn : numAt ws 1 = y.a := by rw [e3]; show (textNum (numText y.a)).1 = y.a; rw [textNum_num e1]
        have hn2 : numAt ws 2 = y.b := by rw [e3]; show (textNum (numText y.b)).1 = y.b; rw [textNum_num e2]
        have hn3 : numsOf3 ws = y.keep := by rw [numsOf3, e3]; exact nums_of _ e4
        rw [hb, hk, hq1, hj1, hn, hn2, hn3, decide_eq_true h2]
        exact e.symm
      · have hw : w0 = elW y.kind := by rw [e3] at hw0; exact (Option.some.inj hw0).symm
        have hj1 : j = y.kind := gj y.kind (by omega) e2 hw.symm
        have hq1 : q = false := by
          cases q with
          | false => rfl
          | true => have := elW_inj (by omega) (by decide) (hw.symm.trans (hq2 rfl).1); omega
        have hn : numAt ws 1 = y.a := by rw [e3]; show (textNum (numText y.a)).1 = y.a; rw [textNum_num e4]
        have hk7 : (j == 7) = false := by rw [beq_eq_false_iff_ne]; omega
        rw [hb, hk, hq1, cond_false, hk7, hn, hj1]
        exact e.symm
  cases h7 : (bif (bif q then 1 else j) == 7 then decide ((ws.length : Int) > 2) else false) with
  | true =>
    rw [cond_true]
    have h2 : 2 < ws.length := by
      cases h8 : ((bif q then 1 else j) == 7) with
      | true => rw [h8, cond_true] at h7; have := of_decide_eq_true h7; omega
      | false => rw [h8] at h7; cases h7
    have hn2 : (textNum ws[2]).1 = numAt ws 2 := by unfold numAt; rw [List.getElem?_eq_getElem h2]
    rw [show getI ws 2 = some ws[2] from getI_at (k := 2) (List.getElem?_eq_getElem h2)]
    simp only [W.D, hn2]
    rw [if_pos (by omega)]
    simp only [W.D]
    rw [show i_StepText _ = some (stI ⟨bif q then 1 else j, numAt ws 1, numAt ws 2, numsOf3 ws, bif q then c else call0⟩) from i_StepText_eq _ (numsOf3_len ws (by omega)), stI_eq]
    simp only [W.D]
    exact hx _ _ (by rw [h7]; rfl) (by rw [h7]; rfl)
  | false =>
    rw [cond_false]
    simp only [W.D]
    rw [show i_StepText _ = some (stI ⟨bif q then 1 else j, numAt ws 1, 0, [], bif q then c else call0⟩) from i_StepText_eq _ (Nat.zero_le _), stI_eq]
    simp only [W.D]
    exact hx _ _ (by rw [h7]; rfl) (by rw [h7]; rfl)
/-- BOTH READ A STEP ALIKE. -/
theorem textStep_eq (p : ByteArray) (hp : p.size ≤ 1048576) : ∃ r, s_TextStep p = some r ∧ i_TextStep p = some r ∧ r.1.keep.length ≤ 1048576 := by
  obtain ⟨x, h1, h2, h3⟩ := s_TextStep_ex p hp
  obtain ⟨y, g1, g2, g3⟩ := i_TextStep_ex p hp
  have key : gives14 p x = gives14 p y := by
    unfold gives14
    simp only [weq]
    by_cases he : p = ⟨#[]⟩
    · rw [decide_eq_true he]; rfl
    · rw [decide_eq_false he]
      by_cases hx : stS x = p
      · have := g3 x hx he
        rw [this]
      · by_cases hy : stS y = p
        · have := h3 y hy he
          rw [this]
        · rw [decide_eq_false hx, decide_eq_false hy]
          rfl
  refine ⟨_, h1, by rw [key]; exact g1, ?_⟩
  unfold gives14
  cases (bif p.toList == (⟨#[]⟩ : ByteArray).toList then true else !((stS x).toList == p.toList)) with
  | true => exact Nat.zero_le _
  | false => exact h2
end Go.Proofs.YtagoajkiccgmjaaDoor
namespace Go.Proofs.YtagoajkiccgmjaaDoor
open Go.Mv Go.RowKit

/-! ### What the law asks of the answer -/
theorem w_eqIntS_self (l : List Int) (hl : l.length ≤ 1048576) : w_eqIntS l l = some true := by
  have h := loop_run' (f := fun s => (Bw_eqIntS_1 l l s).den) (fun k : Nat => (k : Int)) l.length (s0 := 0) (r := (.inl () : Unit ⊕ Bool)) rfl (fun k hk => by
    obtain ⟨x, hx, _⟩ := getI_drop hk
    simp only [Bw_eqIntS_1, W.D]
    rw [decide_eq_true (by omega : (k : Int) < (l.length : Int)), cond_true, hx]
    simp only [W.D]
    rw [show (x != x) = false by simp, cond_false, wrapL _ (by omega) (by omega)]
    rfl) (by
    simp only [Bw_eqIntS_1, W.D]
    rw [decide_eq_false (by omega), cond_false])
  simp only [w_eqIntS, ww_eqIntS, W.D]
  rw [h, show (((l.length : Nat) : Int) != ((l.length : Nat) : Int)) = false by simp]
  rfl
theorem w_eqStep_self (p : Step) (hl : p.keep.length ≤ 1048576) : w_eqStep p p = some true := by
  have h1 : w_eqCall p.call p.call = some true := by
    have h2 : w_eqAsk p.call.ask p.call.ask = some true := by
      have h3 : w_eqRange p.call.ask.range p.call.ask.range = some true := by
        simp only [w_eqRange, ww_eqRange, W.D]
        simp
      simp only [w_eqAsk, ww_eqAsk, W.D, h3]
      simp
    simp only [w_eqCall, ww_eqCall, W.D, h2]
    simp
  simp only [w_eqStep, ww_eqStep, W.D, h1, w_eqIntS_self p.keep hl]
  simp
def markL (k0 : Int) (n : Nat) : List Int := (List.range n).map fun (i : Nat) => k0 + (i : Int)
theorem markL_len (k0 : Int) (n : Nat) : (markL k0 n).length = n := by simp [markL]
theorem markL_succ (k0 : Int) (n : Nat) : markL k0 (n + 1) = markL k0 n ++ [k0 + (n : Int)] := by simp [markL, List.range_succ]
theorem markL_get {k0 : Int} {n i : Nat} (h : i < n) : (markL k0 n)[i]? = some (k0 + (i : Int)) := by
  simp only [markL, List.getElem?_map, List.getElem?_range h, Option.map_some]
theorem w_markIntS_eq (l : List Int) (k0 : Int) (h0 : 0 ≤ k0) (h1 : k0 + l.length < 4611686018427387904) : w_markIntS l k0 = some (markL k0 l.length, k0 + (l.length : Int)) := by
  have h := loop_run' (f := fun s => (Bw_markIntS_1 s).den) (fun k : Nat => (⟨k0 + (k : Int), (k : Int), markL k0 k ++ l.drop k⟩ : Sw_markIntS_1)) l.length (s0 := ⟨k0, 0, l⟩) (r := (⟨k0 + (l.length : Int), markL k0 l.length⟩ : Xw_markIntS_1)) (by simp [markL]) (fun k hk => by
    obtain ⟨x, hx, hd⟩ := getI_drop hk
    have hlen : (markL k0 k ++ l.drop k).length = l.length := by rw [List.length_append, markL_len, List.length_drop]; omega
    have hget : getI (markL k0 k ++ l.drop k) (k : Int) = some x := by
      rw [getI_nat, List.getElem?_append_right (by rw [markL_len]; exact Nat.le_refl _), markL_len, hd]
      simp
    simp only [Bw_markIntS_1, W.D, hlen]
    rw [decide_eq_true (by omega : (k : Int) < (l.length : Int)), cond_true, hget]
    simp only [W.D, Int.toNat_natCast]
    rw [wrapL _ (by omega) (by omega), wrapL _ (by omega) (by omega)]
    have hset : (markL k0 k ++ l.drop k).set k (k0 + (k : Int)) = markL k0 (k + 1) ++ l.drop (k + 1) := by
      rw [hd, markL_succ, List.set_append_right _ _ (by rw [markL_len]; exact Nat.le_refl _), markL_len]
      simp
    rw [hset]
    simp only [Int.natCast_add, Int.natCast_one, Int.add_assoc]) (by
    have hlen : (markL k0 l.length ++ l.drop l.length).length = l.length := by rw [List.length_append, markL_len, List.length_drop]; omega
    simp only [Bw_markIntS_1, W.D, hlen]
    rw [decide_eq_false (by omega), cond_false]
    simp)
  simp only [w_markIntS, ww_markIntS, W.D]
  rw [h]
  rfl
theorem w_heldIntS_eq (n : Nat) (k0 : Int) (h0 : 0 ≤ k0) (h1 : k0 + (n : Int) < 4611686018427387904) : w_heldIntS (markL k0 n) k0 = some (k0 + (n : Int)) := by
  have h := loop_run' (f := fun s => (Bw_heldIntS_1 (markL k0 n) s).den) (fun k : Nat => (⟨k0 + (k : Int), (k : Int)⟩ : Sw_heldIntS_1)) n (s0 := ⟨k0, 0⟩) (r := (.inl (k0 + (n : Int)) : Int ⊕ Int)) (by simp) (fun k hk => by
    simp only [Bw_heldIntS_1, W.D, markL_len]
    rw [decide_eq_true (by omega : (k : Int) < (n : Int)), cond_true, getI_nat, markL_get hk]
    simp only [W.D]
    rw [show ((k0 + (k : Int)) != (k0 + (k : Int))) = false by simp, cond_false, wrapL _ (by omega) (by omega), wrapL _ (by omega) (by omega)]
    simp only [Int.natCast_add, Int.natCast_one, Int.add_assoc]) (by
    simp only [Bw_heldIntS_1, W.D, markL_len]
    rw [decide_eq_false (by omega), cond_false])
  simp only [w_heldIntS, ww_heldIntS, W.D]
  rw [h]
  rfl
theorem w_markStep_eq (p : Step) (k0 : Int) (h0 : 0 ≤ k0) (h1 : k0 + p.keep.length < 4611686018427387904) : w_markStep p k0 = some ({ p with keep := markL k0 p.keep.length }, k0 + (p.keep.length : Int)) := by
  unfold w_markStep
  rw [w_markIntS_eq p.keep k0 h0 h1, bnd_some, chk_i (markL_len _ _)]
theorem w_heldStep_eq (p : Step) (n : Nat) (k0 : Int) (h0 : 0 ≤ k0) (h1 : k0 + (n : Int) < 4611686018427387904) (hp : p.keep = markL k0 n) : w_heldStep p k0 = some (k0 + (n : Int)) := by
  simp only [w_heldStep, ww_heldStep, W.D, hp, w_heldIntS_eq n k0 h0 h1]
  rw [decide_eq_false (by omega), cond_false]
theorem law14 (p : ByteArray) : w_FnExactTextStep p = some true := by
  simp only [w_FnExactTextStep, ww_FnExactTextStep, W.D]
  by_cases hp : (p.size : Int) > 1048576
  · rw [decide_eq_true hp]; rfl
  · rw [decide_eq_false hp, cond_false]
    obtain ⟨r, h1, h2, h3⟩ := textStep_eq p (by omega)
    rw [h1, h2]
    simp only [W.D, w_eqStep_self r.1 h3]
    rw [show (r.2 == r.2) = true by simp]
    simp only [Bool.not_true, cond_false]
    rw [w_markStep_eq r.1 1 (by decide) (by omega)]
    simp only [W.D]
    rw [if_pos (markL_len _ _), w_heldStep_eq _ r.1.keep.length 1 (by decide) (by omega) rfl]
    simp only [W.D]
    rw [decide_eq_false (by omega : ¬ (1 : Int) + (r.1.keep.length : Int) < 0)]
    simp
theorem ok_TextStep (p : ByteArray) : CallOK Tryd.prog 3 [sV p] (bV true) [] := k_w_FnExactTextStep p true (law14 p)
end Go.Proofs.YtagoajkiccgmjaaDoor
