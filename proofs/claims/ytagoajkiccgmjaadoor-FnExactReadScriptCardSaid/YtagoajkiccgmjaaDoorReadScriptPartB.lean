/- What functions of the given program compute, each proved once, for the law that is proved in YtagoajkiccgmjaaDoorReadScript: whatever their arguments, under the conditions that each theorem names. -/
import Derived.Test.YtagoajkiccgmjaaDoorReadScriptPartA
set_option linter.unusedVariables false
set_option linter.unusedSimpArgs false
namespace Go.Proofs.YtagoajkiccgmjaaDoor
open Go.Mv Go.RowKit

/-! ### Both texts of a step -/
theorem callW_len (c : Call) : (callW c).length ≤ 4 := by
  unfold callW askW
  cases (c.kind == 1) <;> cases (c.kind == 3) <;> cases (c.kind == 4) <;> cases (c.ask.kind == 1) <;> cases (c.ask.kind == 2) <;> cases (c.ask.kind == 3) <;> cases c.ask.back <;> simp
theorem wordsI_len {p : Step} (hp : p.keep.length ≤ 1048576) : (wordsI p).length ≤ 2000000 := by
  have h := callW_len p.call
  unfold wordsI
  cases (p.kind == 1) <;> cases (p.kind == 5) <;> cases (p.kind == 7) <;> simp <;> omega
theorem word_size (k : Int) : (wordOf k).size ≤ 12290 := by
  rw [wordOf_is]
  have h : ∀ a : Array UInt8, a.size ≤ 8 → (⟨a⟩ : ByteArray).size ≤ 12290 := fun a h => Nat.le_trans h (by decide)
  repeat (first | exact h _ (by decide) | with_reducible refine cond_le ?_ ?_)
theorem askW_mem (q : Ask) : ∀ w ∈ askW q, w.size ≤ 12290 := by
  have hq := fun s => quote_size s
  have hn := fun n => Nat.le_trans (numText_size n) (show 13 ≤ 12290 by decide)
  have hl : ∀ a : Array UInt8, a.size ≤ 8 → (⟨a⟩ : ByteArray).size ≤ 12290 := fun a h => Nat.le_trans h (by decide)
  unfold askW
  intro w hw
  cases h1 : (q.kind == 1) <;> rw [h1] at hw <;> simp only [cond_true, cond_false] at hw
  · cases h2 : (q.kind == 2) <;> rw [h2] at hw <;> simp only [cond_true, cond_false] at hw
    · cases h3 : (q.kind == 3) <;> rw [h3] at hw <;> simp only [cond_true, cond_false] at hw
      · cases h4 : q.back <;> rw [h4] at hw <;> simp only [cond_true, cond_false, List.mem_cons, List.not_mem_nil, or_false] at hw
        · rcases hw with rfl | rfl | rfl | rfl
          · exact hl _ (by decide)
          · exact hq _
          · exact hq _
          · exact hn _
        · rcases hw with rfl | rfl | rfl | rfl
          · exact hl _ (by decide)
          · exact hq _
          · exact hq _
          · exact hn _
      · simp only [List.mem_cons, List.not_mem_nil, or_false] at hw
        rcases hw with rfl | rfl
        · exact hl _ (by decide)
        · exact hq _
    · simp only [List.mem_cons, List.not_mem_nil, or_false] at hw
      rcases hw with rfl | rfl | rfl
      · exact hl _ (by decide)
      · exact hq _
      · exact hq _
  · simp only [List.mem_cons, List.not_mem_nil, or_false] at hw
    rcases hw with rfl | rfl
    · exact hl _ (by decide)
    · exact hq _
theorem callW_mem (c : Call) : ∀ w ∈ callW c, w.size ≤ 12290 := by
  have hl : ∀ a : Array UInt8, a.size ≤ 8 → (⟨a⟩ : ByteArray).size ≤ 12290 := fun a h => Nat.le_trans h (by decide)
  unfold callW
  intro w hw
  cases h1 : (c.kind == 1) <;> rw [h1] at hw <;> simp only [cond_true, cond_false] at hw
  · cases h2 : (c.kind == 3) <;> rw [h2] at hw <;> simp only [cond_true, cond_false] at hw
    · cases h3 : (c.kind == 4) <;> rw [h3] at hw <;> simp only [cond_true, cond_false] at hw
      · exact askW_mem _ w hw
      · simp only [List.mem_cons, List.not_mem_nil, or_false] at hw; subst hw; exact hl _ (by decide)
    · simp only [List.mem_cons, List.not_mem_nil, or_false] at hw; subst hw; exact hl _ (by decide)
  · simp only [List.mem_cons, List.not_mem_nil, or_false] at hw; subst hw; exact hl _ (by decide)
theorem wordsI_mem (p : Step) : ∀ w ∈ wordsI p, w.size ≤ 12290 := by
  have hc := callW_mem p.call
  have hn := fun n => Nat.le_trans (numText_size n) (show 13 ≤ 12290 by decide)
  have hw := word_size p.kind
  have hl : (⟨#[99, 97, 108, 108]⟩ : ByteArray).size ≤ 12290 := by decide
  unfold wordsI
  intro w hw2
  cases h1 : (p.kind == 1) <;> cases h2 : (p.kind == 5) <;> cases h3 : (p.kind == 7) <;> simp only [h1, h2, h3, cond_true, cond_false, List.mem_append, List.mem_cons, List.not_mem_nil, or_false, List.mem_map] at hw2
  all_goals (first
    | (rcases hw2 with (rfl | rfl) | h; exact hl; exact hn _; exact hc _ h)
    | (rcases hw2 with (rfl | rfl | rfl) | ⟨n, _, rfl⟩; exact hw; exact hn _; exact hn _; exact hn _)
    | (rcases hw2 with rfl | rfl; exact hw; exact hn _)
    | (subst hw2; exact hw))
theorem foldJ_size (sep : ByteArray) (m : Nat) : ∀ (xs : List ByteArray) (o : ByteArray), (∀ w ∈ xs, w.size ≤ m) → (foldJ sep xs o).size ≤ o.size + xs.length * (m + sep.size)
  | [], o, _ => by simp [foldJ]
  | x :: xs, o, h => by
    have h1 := foldJ_size sep m xs ((o ++ sep) ++ x) fun w hw => h w (by simp [hw])
    have h2 := h x (by simp)
    rw [foldJ]
    simp only [ByteArray.size_append, List.length_cons, Nat.succ_mul] at h1 ⊢
    omega
theorem joinI_size {p : Step} (hp : p.keep.length ≤ 1048576) : (joinB (wordsI p) ⟨#[32]⟩).size ≤ 140737488355328 := by
  have h1 := wordsI_len hp
  have h2 := wordsI_mem p
  generalize wordsI p = ws at h1 h2
  cases ws with
  | nil => exact Nat.zero_le _
  | cons x xs =>
    rw [joinB_fold]
    have h3 := foldJ_size ⟨#[32]⟩ 12290 xs x fun w hw => h2 w (by simp [hw])
    have h4 := h2 x (by simp)
    have h5 : (⟨#[32]⟩ : ByteArray).size = 1 := rfl
    rw [h5] at h3
    simp only [List.length_cons] at h1
    have : xs.length * (12290 + 1) ≤ 2000000 * 12291 := Nat.mul_le_mul (by omega) (Nat.le_refl _)
    omega
theorem callT_size (c : Call) : (callT c).size ≤ 100000 := by
  unfold callT
  cases cOk c with
  | false => exact Nat.zero_le _
  | true =>
    rw [cond_true]
    have h1 := callW_len c
    have h2 := callW_mem c
    generalize callW c = ws at h1 h2
    cases ws with
    | nil => exact Nat.zero_le _
    | cons x xs =>
      rw [joinB_fold]
      have h3 := foldJ_size ⟨#[32]⟩ 12290 xs x fun w hw => h2 w (by simp [hw])
      have h4 := h2 x (by simp)
      have h5 : (⟨#[32]⟩ : ByteArray).size = 1 := rfl
      rw [h5] at h3
      simp only [List.length_cons] at h1
      have : xs.length * (12290 + 1) ≤ 3 * 12291 := Nat.mul_le_mul (by omega) (Nat.le_refl _)
      omega
theorem keepT_size : ∀ (l : List Int) (o : ByteArray), (keepT l o).size ≤ o.size + 14 * l.length
  | [], o => by simp [keepT]
  | n :: ns, o => by
    have h1 := keepT_size ns ((o ++ ⟨#[32]⟩) ++ numText n)
    have h2 := numText_size n
    rw [keepT, List.length_cons]
    simp only [ByteArray.size_append, mv_size_mk, List.size_toArray, List.length_cons, List.length_nil] at h1
    omega
noncomputable def keepR (l : List Int) (o : ByteArray) : Option (ByteArray ⊕ ByteArray) := bif l.all l01Num then some (.inl (keepT l o)) else some (.inr ⟨#[]⟩)
theorem keepR_cons (n : Int) (l : List Int) (o : ByteArray) : keepR (n :: l) o = bif l01Num n then keepR l ((o ++ ⟨#[32]⟩) ++ numText n) else some (.inr ⟨#[]⟩) := by
  unfold keepR
  rw [List.all_cons, keepT]
  cases l01Num n <;> rfl
theorem getI_drop {α : Type} {l : List α} {k : Nat} (h : k < l.length) : ∃ x, getI l (k : Int) = some x ∧ l.drop k = x :: l.drop (k + 1) :=
  ⟨l[k], getI_at (List.getElem?_eq_getElem h), List.drop_eq_getElem_cons h⟩
theorem s_loopK (p : Step) (o : ByteArray) (ho : o.size ≤ 100) (hk : p.keep.length ≤ 1048576) : loopT (fun s => (Bs_StepText_1 p s).den) ⟨o, 0⟩ = keepR p.keep o := by
  refine (loopT_val (fun s : Ss_StepText_1 => keepR (p.keep.drop s.v97.toNat) s.v4) (fun s => ∃ k : Nat, s.v97 = k ∧ k ≤ p.keep.length ∧ s.v4.size ≤ 100 + 14 * k) (fun s => p.keep.length - s.v97.toNat) (fun s hs => ?_) ⟨o, 0⟩ ⟨0, rfl, Nat.zero_le _, by simpa using ho⟩)
  obtain ⟨v4, v97⟩ := s
  obtain ⟨k, hk1, hkw, hl⟩ := hs
  simp only at hk1 hl
  subst hk1
  simp only [Bs_StepText_1, W.D, s_l01Num_eq, s_NumText_eq, Int.toNat_natCast]
  by_cases h : k < p.keep.length
  · obtain ⟨x, hx, hd⟩ := getI_drop h
    rw [decide_eq_true (by omega : (k : Int) < (p.keep.length : Int)), cond_true, hx, hd, keepR_cons]
    simp only [W.D]
    cases hn : l01Num x with
    | false => left; exact ⟨_, rfl, rfl⟩
    | true =>
      right
      have hs := numText_size x
      simp only [Bool.not_true, cond_false, cond_true]
      rw [if_pos (by simp only [mv_size_mk, List.size_toArray, List.length_cons, List.length_nil]; omega), if_pos (by simp only [ByteArray.size_append, mv_size_mk, List.size_toArray, List.length_cons, List.length_nil]; omega), wrapL _ (by omega) (by omega)]
      exact ⟨_, rfl, ⟨k + 1, by simp, by omega, by simp only [ByteArray.size_append, mv_size_mk, List.size_toArray, List.length_cons, List.length_nil]; omega⟩, by simp only; omega, rfl⟩
  · left
    have : k = p.keep.length := by omega
    subst this
    rw [decide_eq_false (by omega), cond_false, List.drop_eq_nil_of_le (Nat.le_refl _)]
    exact ⟨_, rfl, rfl⟩
theorem headW_size (p : Step) : (headW p).size ≤ 100 := by
  have h1 := elW_size p.kind
  have h2 := numText_size p.a
  have h3 := numText_size p.b
  unfold headW
  cases (p.kind == 7) <;> cases (p.kind != 5) <;> simp only [cond_true, cond_false, ByteArray.size_append, mv_size_mk, List.size_toArray, List.length_cons, List.length_nil] <;> omega
theorem c1S_kind {p : Step} (h : c1S p = false) : 1 ≤ p.kind ∧ p.kind ≤ 9 ∧ l01Num p.a = true ∧ l01Num p.b = true := by
  unfold c1S at h
  by_cases h1 : p.kind < 1 <;> by_cases h2 : p.kind > 9 <;> cases h3 : l01Num p.a <;> cases h4 : l01Num p.b <;> simp [h1, h2, h3, h4] at h <;> exact ⟨by omega, by omega, rfl, rfl⟩
theorem c1S_def (p : Step) : (bif (decide (p.kind < 1)) then true else (bif (decide (p.kind > 9)) then true else (bif (!(l01Num p.a)) then true else (!(l01Num p.b))))) = c1S p := rfl
theorem c2I_def (p : Step) : (bif ((p.kind != 7)) then (bif ((p.b != 0)) then true else (bif (decide ((((p.keep.length : Nat) : Int)) > 0)) then true else (bif ((p.kind == 5)) then ((p.a != 0)) else false))) else (bif ((p.kind == 5)) then ((p.a != 0)) else false)) = c2I p := rfl
theorem zA_def (q : Ask) : ((q.kind == 0) && ((q.key.toList == ((⟨#[]⟩ : ByteArray)).toList) && ((q.val.toList == ((⟨#[]⟩ : ByteArray)).toList) && ((q.range.lo.toList == ((⟨#[]⟩ : ByteArray)).toList) && ((q.range.hi.toList == ((⟨#[]⟩ : ByteArray)).toList) && ((q.most == 0) && ((q.back == false) && true))))))) = zA q := rfl
theorem c2S_def (p : Step) : (bif ((p.kind != 1)) then (bif ((p.call.kind != 0)) then true else (bif (!(zA p.call.ask)) then true else c2I p)) else c2I p) = c2S p := rfl
theorem s_StepText_eq (p : Step) (hk : p.keep.length ≤ 1048576) : s_StepText p = some (stS p) := by
  simp only [s_StepText, ws_StepText, W.D, s_l01Num_eq, s_l14Words_eq, s_NumText_eq, s_l14Call_eq]
  have h1 := elW_size p.kind
  have h2 := numText_size p.a
  have h3 := numText_size p.b
  have h4 := callT_size p.call
  unfold stS
  rw [c1S_def]
  cases e1 : c1S p with
  | true => rfl
  | false =>
    obtain ⟨k1, k2, _⟩ := c1S_kind e1
    rw [cond_false, cond_false, c2I_def, zA_def, c2S_def]
    cases e2 : c2S p with
    | true => rfl
    | false =>
      rw [cond_false, cond_false, getI_words ⟨k1, k2⟩]
      simp only [W.D]
      rw [if_pos (by simp only [mv_size_mk, List.size_toArray, List.length_cons, List.length_nil]; omega), if_pos (by simp only [ByteArray.size_append, mv_size_mk, List.size_toArray, List.length_cons, List.length_nil]; omega)]
      have hj : ∀ (j : ByteArray), j.size ≤ 60 → (bif p.kind == 7 then (if j.size + (⟨#[32]⟩ : ByteArray).size ≤ 140737488355328 then if (j ++ (⟨#[32]⟩ : ByteArray)).size + (numText p.b).size ≤ 140737488355328 then some (j ++ (⟨#[32]⟩ : ByteArray) ++ numText p.b) else none else none) else some j) = some (bif p.kind == 7 then (j ++ (⟨#[32]⟩ : ByteArray)) ++ numText p.b else j) := fun j hj => by
        rw [if_pos (by simp only [mv_size_mk, List.size_toArray, List.length_cons, List.length_nil]; omega), if_pos (by simp only [ByteArray.size_append, mv_size_mk, List.size_toArray, List.length_cons, List.length_nil]; omega)]
        cases (p.kind == 7) <;> rfl
      simp only [W.D]
      rw [hj _ (by cases (p.kind != 5) <;> simp only [cond_true, cond_false, ByteArray.size_append, mv_size_mk, List.size_toArray, List.length_cons, List.length_nil] <;> omega)]
      simp only [W.D]
      rw [show (bif p.kind == 7 then ((bif p.kind != 5 then (elW p.kind ++ (⟨#[32]⟩ : ByteArray)) ++ numText p.a else elW p.kind) ++ (⟨#[32]⟩ : ByteArray)) ++ numText p.b else (bif p.kind != 5 then (elW p.kind ++ (⟨#[32]⟩ : ByteArray)) ++ numText p.a else elW p.kind)) = headW p from rfl]
      rw [s_loopK p (headW p) (headW_size p) hk, keepR]
      have h5 := keepT_size p.keep (headW p)
      have h6 := headW_size p
      cases p.keep.all l01Num with
      | false => rfl
      | true =>
        simp only [cond_true, Bool.not_true, cond_false, bndS_inl]
        cases (p.kind == 1) with
        | false => rfl
        | true =>
          simp only [cond_true]
          cases ((callT p.call).toList == (⟨#[]⟩ : ByteArray).toList) with
          | true => rfl
          | false =>
            simp only [cond_false]
            rw [if_pos (by simp only [mv_size_mk, List.size_toArray, List.length_cons, List.length_nil]; omega), if_pos (by simp only [ByteArray.size_append, mv_size_mk, List.size_toArray, List.length_cons, List.length_nil]; omega)]
            rfl
theorem i_loopK (p : Step) (o : List ByteArray) (ho : o.length ≤ 3) (hk : p.keep.length ≤ 1048576) : loopT (fun s => (Bi_StepText_1 p s).den) ⟨o, 0⟩ = some (o ++ p.keep.map numText) := by
  refine (loopT_val (fun s : Si_StepText_1 => some (s.v5 ++ (p.keep.drop s.v95.toNat).map numText)) (fun s => ∃ k : Nat, s.v95 = k ∧ k ≤ p.keep.length ∧ s.v5.length ≤ 3 + k) (fun s => p.keep.length - s.v95.toNat) (fun s hs => ?_) ⟨o, 0⟩ ⟨0, rfl, Nat.zero_le _, by simpa using ho⟩).trans (by simp)
  obtain ⟨v5, v95⟩ := s
  obtain ⟨k, hk1, hkw, hl⟩ := hs
  simp only at hk1 hl
  subst hk1
  simp only [Bi_StepText_1, W.D, i_NumText_eq, Int.toNat_natCast]
  by_cases h : k < p.keep.length
  · right
    obtain ⟨x, hx, hd⟩ := getI_drop h
    rw [decide_eq_true (by omega : (k : Int) < (p.keep.length : Int)), cond_true, hx, hd]
    simp only [W.D]
    rw [if_pos (by simp only [List.length_cons, List.length_nil]; omega), wrapL _ (by omega) (by omega)]
    exact ⟨_, rfl, ⟨k + 1, by simp, by omega, by simp only [List.length_append, List.length_cons, List.length_nil]; omega⟩, by simp only; omega, by simp only [List.map_cons, List.append_assoc, List.singleton_append]; rfl⟩
  · left
    have : k = p.keep.length := by omega
    subst this
    rw [decide_eq_false (by omega), cond_false, List.drop_eq_nil_of_le (Nat.le_refl _)]
    exact ⟨_, rfl, by simp⟩
theorem i_loopE (ws : List ByteArray) (hn : ws.length ≤ 2000000) : loopT (fun s => (Bi_StepText_2 ws s).den) 0 = some (bif noEmpty ws then .inl () else .inr ⟨#[]⟩) := by
  have := loop_first ws (fun _ w => if (w.toList == (⟨#[]⟩ : ByteArray).toList) then some () else none) (fun s => (Bi_StepText_2 ws s).den) (fun o => match o with | some _ => (.inr ⟨#[]⟩ : Unit ⊕ ByteArray) | none => .inl ()) (by omega) (fun k y hy => by
    have hlt := (List.getElem?_eq_some_iff.1 hy).1
    simp only [Bi_StepText_2, W.D]
    rw [decide_eq_true (by omega : (k : Int) < (ws.length : Int)), cond_true, getI_at hy]
    simp only [W.D]
    cases (y.toList == (⟨#[]⟩ : ByteArray).toList) <;> rfl) (by simp only [Bi_StepText_2, W.D]; rw [decide_eq_false (by omega), cond_false])
  rw [this, firstL_any (fun w : ByteArray => w.toList == (⟨#[]⟩ : ByteArray).toList)]
  have e : (ws.any fun w => w.toList == (⟨#[]⟩ : ByteArray).toList) = !(noEmpty ws) := by
    unfold noEmpty
    rw [List.all_eq_not_any_not]
    simp
  rw [e]
  cases noEmpty ws <;> rfl
theorem i_StepText_eq (p : Step) (hk : p.keep.length ≤ 1048576) : i_StepText p = some (stI p) := by
  simp only [i_StepText, wi_StepText, W.D, i_wordOf_eq, i_CallOk_eq, i_NumText_eq, i_callWords_eq]
  have hw : ∀ (x : Option ByteArray), (bndS (loopT (fun s => (Bi_StepText_2 (wordsI p) s).den) 0) fun _ => Mv.bnd (st_Join (wordsI p) (⟨#[32]⟩ : ByteArray)) some) = some (bif noEmpty (wordsI p) then joinB (wordsI p) ⟨#[32]⟩ else ⟨#[]⟩) := fun _ => by
    have hl := wordsI_len hk
    rw [i_loopE _ hl, st_Join, if_pos ⟨by omega, joinI_size hk⟩]
    cases noEmpty (wordsI p) <;> rfl
  have hcl := callW_len p.call
  unfold stI
  rw [zA_def, c2I_def]
  have e1 : (bif !((p.kind == 1) == !((p.call.kind == 0) && zA p.call.ask)) then true else bif p.kind == 1 then (bif !cOk p.call then true else bif !(p.kind == 1) then ((wordOf p.kind).toList == (⟨#[]⟩ : ByteArray).toList) else false) else bif !(p.kind == 1) then ((wordOf p.kind).toList == (⟨#[]⟩ : ByteArray).toList) else false) = c1I p := by
    unfold c1I
    cases (p.kind == 1) <;> rfl
  rw [e1]
  cases c1I p with
  | true => rfl
  | false =>
    rw [cond_false, cond_false]
    cases c2I p with
    | true => rfl
    | false =>
      rw [cond_false, cond_false, i_loopK p _ (by simp) hk, if_pos (show ([(⟨#[99, 97, 108, 108]⟩ : ByteArray), numText p.a].length + (callW p.call).length) * 16 ≤ 140737488355328 by simp only [List.length_cons, List.length_nil]; omega)]
      have hj : (bif p.kind == 1 then some ([(⟨#[99, 97, 108, 108]⟩ : ByteArray), numText p.a] ++ callW p.call) else
          bif p.kind == 5 then some [wordOf p.kind] else bif p.kind == 7 then some ([wordOf p.kind, numText p.a, numText p.b] ++ p.keep.map numText) else some [wordOf p.kind, numText p.a]) = some (wordsI p) := by
        unfold wordsI
        cases (p.kind == 1) <;> cases (p.kind == 5) <;> cases (p.kind == 7) <;> rfl
      rw [← hw none, ← bnd_some (wordsI p) fun j => bndS (loopT (fun s => (Bi_StepText_2 j s).den) 0) fun _ => Mv.bnd (st_Join j (⟨#[32]⟩ : ByteArray)) some, ← hj]
      cases (p.kind == 1) <;> cases (p.kind == 5) <;> cases (p.kind == 7) <;> rfl
end Go.Proofs.YtagoajkiccgmjaaDoor
namespace Go.Proofs.YtagoajkiccgmjaaDoor
open Go.Mv Go.RowKit

/-! ### A text cut at a byte -/
def parts (c : UInt8) : List UInt8 → List (List UInt8)
  | [] => [[]]
  | b :: l => if b = c then [] :: parts c l else match parts c l with
    | p :: ps => (b :: p) :: ps
    | [] => [[b]]
theorem parts_ne (c : UInt8) : ∀ l, parts c l ≠ []
  | [] => by simp [parts]
  | b :: l => by
    unfold parts
    split
    · simp
    · split <;> simp
theorem parts_app {c : UInt8} : ∀ {a : List UInt8} (l : List UInt8), c ∉ a → parts c (a ++ c :: l) = a :: parts c l
  | [], l, _ => by simp [parts]
  | b :: a, l, h => by
    have hb : b ≠ c := fun e => h (by simp [e])
    have ih := parts_app (a := a) l fun g => h (List.mem_cons_of_mem _ g)
    rw [List.cons_append, parts, if_neg hb, ih]
theorem parts_one {c : UInt8} : ∀ {a : List UInt8}, c ∉ a → parts c a = [a]
  | [], _ => rfl
  | b :: a, h => by
    have hb : b ≠ c := fun e => h (by simp [e])
    rw [parts, if_neg hb, parts_one (a := a) fun g => h (List.mem_cons_of_mem _ g)]
theorem parts_len (c : UInt8) : ∀ l, (parts c l).length ≤ l.length + 1
  | [] => by simp [parts]
  | b :: l => by
    have ih := parts_len c l
    unfold parts
    split
    · simp only [List.length_cons]; omega
    · split
      · rename_i p ps h; rw [h] at ih; simp only [List.length_cons] at ih ⊢; omega
      · simp
theorem parts_mem {c : UInt8} : ∀ {l p : List UInt8}, p ∈ parts c l → p.length ≤ l.length
  | [], p, h => by simp [parts] at h; simp [h]
  | b :: l, p, h => by
    unfold parts at h
    split at h
    · rcases List.mem_cons.1 h with rfl | h
      · simp
      · have := parts_mem h; simp only [List.length_cons]; omega
    · split at h
      · rename_i q ps e
        rcases List.mem_cons.1 h with rfl | h
        · have := parts_mem (c := c) (l := l) (p := q) (by rw [e]; simp); simp only [List.length_cons]; omega
        · have := parts_mem (c := c) (l := l) (p := p) (by rw [e]; simp [h]); simp only [List.length_cons]; omega
      · simp at h; simp [h]
def mkB (l : List UInt8) : ByteArray := ⟨l.toArray⟩
theorem mkB_data (s : ByteArray) : mkB s.data.toList = s := by apply ByteArray.ext; simp [mkB]
theorem mkB_size (l : List UInt8) : (mkB l).size = l.length := by simp [mkB, ByteArray.size]
theorem data_mkB (l : List UInt8) : (mkB l).data.toList = l := by simp [mkB]
def ptsB (c : UInt8) (s : ByteArray) : List ByteArray := (parts c s.data.toList).map mkB
theorem ptsB_len (c : UInt8) (s : ByteArray) : (ptsB c s).length ≤ s.size + 1 := by
  have := parts_len c s.data.toList
  simpa [ptsB] using this
theorem ptsB_mem {c : UInt8} {s w : ByteArray} (h : w ∈ ptsB c s) : w.size ≤ s.size := by
  obtain ⟨l, hl, rfl⟩ := List.mem_map.1 h
  have := parts_mem hl
  rw [mkB_size]
  simpa using this
theorem ptsB_ne (c : UInt8) (s : ByteArray) : ptsB c s ≠ [] := by
  unfold ptsB
  rw [ne_eq, List.map_eq_nil_iff]
  exact parts_ne c _
theorem splitK_one (c : UInt8) : ∀ l : List UInt8, Lib.splitK [c] 0 (Lib.count l [c]) l = parts c l
  | [] => by rw [Lib.count_one]; rfl
  | b :: l => by
    have ih := splitK_one c l
    by_cases h : b = c
    · subst h
      have hix : Lib.index (b :: l) [b] = 0 := by rw [Lib.index]; simp [List.isPrefixOf]
      rw [Lib.count_cons_eq, Nat.add_comm, Lib.splitK, hix, parts, if_pos rfl, ← ih]
      simp
    · rw [Lib.count_cons_ne b c l h, parts, if_neg h]
      have hp : ([c] : List UInt8).isPrefixOf (b :: l) = false := by simp [List.isPrefixOf, Ne.symm h]
      have hix : Lib.index (b :: l) [c] = if Lib.index l [c] == -1 then -1 else Lib.index l [c] + 1 := by rw [Lib.index, hp]; simp
      cases hk : Lib.count l [c] with
      | zero =>
        rw [hk] at ih
        rw [← ih]
        rfl
      | succ k =>
        have hne : Lib.index l [c] ≠ -1 := fun e => by rw [Lib.count_miss e] at hk; cases hk
        have hge := Lib.index_ge l [c]
        rw [hk] at ih
        have hb : (Lib.index l [c] == -1) = false := beq_eq_false_iff_ne.2 hne
        have hb2 : (Lib.index l [c] + 1 == -1) = false := beq_eq_false_iff_ne.2 (by omega)
        rw [Lib.splitK, hb] at ih
        simp only [Bool.false_eq_true, if_false, Nat.add_zero, List.length_singleton] at ih
        rw [Lib.splitK, hix, hb]
        simp only [Bool.false_eq_true, if_false, hb2, Nat.add_zero, List.length_singleton]
        rw [← ih]
        have e1 : (Lib.index l [c] + 1).toNat = (Lib.index l [c]).toNat + 1 := by omega
        rw [e1]
        simp
theorem splitB_one (c : UInt8) (s : ByteArray) : Lib.splitB ⟨#[c]⟩ 0 (Lib.countB s ⟨#[c]⟩) s = ptsB c s := by
  have h := Lib.splitB_data ⟨#[c]⟩ 0 (Lib.countB s ⟨#[c]⟩) s
  have e : (⟨#[c]⟩ : ByteArray).data.toList = [c] := rfl
  rw [e, show Lib.countB s ⟨#[c]⟩ = Lib.count s.data.toList [c] from rfl, splitK_one] at h
  unfold ptsB
  rw [← h, List.map_map]
  conv => lhs; rw [← List.map_id (Lib.splitB ⟨#[c]⟩ 0 (Lib.countB s ⟨#[c]⟩) s)]
  exact List.map_congr_left fun x _ => (mkB_data x).symm
theorem st_Split_eq (c : UInt8) (s : ByteArray) (hs : s.size ≤ 1048576) : st_Split s ⟨#[c]⟩ = some (ptsB c s) := by
  simp only [st_Split, wst_Split, W.D, st_genSplit, splitT]
  rw [if_pos ⟨rfl, trivial, trivial, by omega⟩, splitB_one]
  rfl
theorem extract_mk (s : ByteArray) (f k : Nat) : s.extract f k = mkB ((s.data.toList.take k).drop f) := by
  apply ByteArray.ext
  rw [ByteArray.data_extract]
  apply Array.toList_inj.1
  rw [Array.toList_extract]
  show List.extract _ f k = _
  rw [List.extract_eq_take_drop, List.drop_take]
  rfl
theorem take_snoc {l : List UInt8} {k f : Nat} {x : UInt8} (h : l[k]? = some x) (hf : f ≤ k) : (l.take (k + 1)).drop f = (l.take k).drop f ++ [x] := by
  have hl := (List.getElem?_eq_some_iff.1 h).1
  rw [List.take_add_one, h, List.drop_append_of_le_length (by simp; omega)]
  rfl
theorem drop_split {l : List UInt8} {k f : Nat} {x : UInt8} (h : l[k]? = some x) (hf : f ≤ k) : l.drop f = (l.take k).drop f ++ x :: l.drop (k + 1) := by
  obtain ⟨hl, hx⟩ := List.getElem?_eq_some_iff.1 h
  have h1 : l.drop k = x :: l.drop (k + 1) := by rw [List.drop_eq_getElem_cons hl, hx]
  rw [← h1]
  conv => lhs; rw [← List.take_append_drop k l]
  rw [List.drop_append_of_le_length (by simp; omega)]
theorem byteAt_is {s : ByteArray} {k : Nat} (h : k < s.size) (c : UInt8) : (byteAt s (k : Int) == (c.toNat : Int)) = decide (s.data.toList[k]? = some c) := by
  rw [byteAt_get h]
  have hl : k < s.data.toList.length := by simpa using h
  rw [List.getElem?_eq_getElem hl]
  by_cases e : s.data.toList[k] = c
  · rw [e]; simp
  · have : ¬ s.data.toList[k].toNat = c.toNat := fun g => e (UInt8.toNat_inj.1 g)
    simp only [Option.some.injEq, e, decide_false, beq_eq_false_iff_ne, ne_eq]
    omega
theorem s_l07Parts_eq (c : UInt8) (s : ByteArray) (hs : s.size ≤ 1048576) : s_l07Parts s (c.toNat : Int) = some (ptsB c s) := by
  have hlen : s.data.toList.length = s.size := by simp
  obtain ⟨j, hj, f, hf, h1, h2, h3⟩ := loopT_ex (f := fun t => (Bs_l07Parts_1 s (c.toNat : Int) t).den) (fun j : Xs_l07Parts_1 => ∃ f : Nat, j.v6 = f ∧ f ≤ s.size ∧ j.v5.length ≤ s.size ∧ j.v5 ++ [s.extract f s.size] = ptsB c s)
    (fun t : Ss_l07Parts_1 => ∃ k f : Nat, t.v7 = k ∧ t.v6 = f ∧ f ≤ k ∧ k ≤ s.size ∧ t.v5.length ≤ k ∧ c ∉ (s.data.toList.take k).drop f ∧ t.v5 ++ (parts c (s.data.toList.drop f)).map mkB = ptsB c s) (fun t => s.size - t.v7.toNat) (fun t ht => by
      obtain ⟨v5, v6, v7⟩ := t
      obtain ⟨k, f, hk, hf, hfk, hks, hl, hc, hp⟩ := ht
      simp only at hk hf hl hp
      subst hk; subst hf
      simp only [Bs_l07Parts_1, W.D]
      by_cases h : k < s.size
      · right
        rw [decide_eq_true (by omega : (k : Int) < (s.size : Int)), cond_true, if_pos (show 0 ≤ (k : Int) ∧ (k : Int) < (s.size : Int) by omega), byteAt_is h c, wrapL _ (by omega) (by omega)]
        by_cases e : s.data.toList[k]? = some c
        · rw [decide_eq_true e]
          simp only [cond_true]
          rw [if_pos (show 0 ≤ (f : Int) ∧ (f : Int) ≤ (k : Int) ∧ (k : Int) ≤ (s.size : Int) by omega), if_pos (by simp only [List.length_cons, List.length_nil]; omega)]
          simp only [W.D, Int.toNat_natCast]
          refine ⟨_, rfl, ⟨k + 1, k + 1, by simp, by simp, Nat.le_refl _, by omega, by simp only [List.length_append, List.length_cons, List.length_nil]; omega, ?_, ?_⟩, by simp only [Int.toNat_natCast]; omega⟩
          · rw [List.drop_eq_nil_of_le (by simp; omega)]; simp
          · simp only
            rw [← hp, drop_split e hfk, parts_app _ hc, List.map_cons, extract_mk]
            simp
        · rw [decide_eq_false e]
          simp only [cond_false, W.D]
          refine ⟨_, rfl, ⟨k + 1, f, by simp, rfl, by omega, by omega, by simp only; omega, ?_, hp⟩, by simp only [Int.toNat_natCast]; omega⟩
          have hx : s.data.toList[k]? = some (s.data.toList[k]'(by omega)) := List.getElem?_eq_getElem (by omega)
          rw [take_snoc hx hfk, List.mem_append, List.mem_singleton]
          rintro (g | g)
          · exact hc g
          · exact e (by rw [hx, g])
      · left
        have : k = s.size := by omega
        subst this
        rw [decide_eq_false (by omega), cond_false]
        refine ⟨_, rfl, f, rfl, hfk, hl, ?_⟩
        have ht : s.data.toList.take s.size = s.data.toList := List.take_of_length_le (by omega)
        rw [ht] at hc
        simp only
        rw [← hp, parts_one hc, extract_mk, ht]
        rfl) ⟨[], 0, 0⟩ ⟨0, 0, rfl, rfl, Nat.le_refl _, Nat.zero_le _, by simp, by simp, by simp [ptsB]⟩
  simp only [s_l07Parts, ws_l07Parts, W.D]
  rw [hj]
  simp only [W.D]
  rw [hf, if_pos (show 0 ≤ (f : Int) ∧ (f : Int) ≤ (s.size : Int) ∧ (s.size : Int) ≤ (s.size : Int) by omega), if_pos (by simp only [List.length_cons, List.length_nil]; omega)]
  simp only [Int.toNat_natCast]
  rw [h3]

/-! ### What was joined is cut as it was -/
def nsp (w : ByteArray) : Prop := (32 : UInt8) ∉ w.data.toList
theorem nsp_of {w : ByteArray} (h : ∀ n ∈ bytesOf w, n ≠ 32) : nsp w := fun hm => h 32 (by rw [bytesOf_eq]; exact List.mem_map.2 ⟨32, hm, rfl⟩) rfl
theorem ptsB_join : ∀ (ws : List ByteArray), ws ≠ [] → (∀ w ∈ ws, nsp w) → ptsB 32 (joinB ws ⟨#[32]⟩) = ws
  | [], h, _ => absurd rfl h
  | [w], _, h => by
    rw [joinB_one, ptsB, parts_one (h w (by simp))]
    simp [mkB_data]
  | w :: x :: ws, _, h => by
    have ih := ptsB_join (x :: ws) (by simp) fun v hv => h v (by simp [hv])
    rw [joinB_cons, ptsB]
    have e : ((w ++ (⟨#[32]⟩ : ByteArray)) ++ joinB (x :: ws) ⟨#[32]⟩).data.toList = w.data.toList ++ 32 :: (joinB (x :: ws) ⟨#[32]⟩).data.toList := by
      simp [ByteArray.data_append]
    rw [e, parts_app _ (h w (by simp)), List.map_cons, mkB_data]
    congr 1
end Go.Proofs.YtagoajkiccgmjaaDoor
namespace Go.Proofs.YtagoajkiccgmjaaDoor
open Go.Mv Go.RowKit

/-! ### The words of a step's text -/
theorem nsp_lit {a : Array UInt8} (h : a.toList.contains 32 = false) : nsp ⟨a⟩ := fun hm => by
  have : a.toList.contains 32 = true := by simpa using hm
  rw [h] at this; cases this
theorem nsp_num (n : Int) : nsp (numText n) := by
  cases h : l01Num n with
  | false => rw [num_no h]; exact nsp_lit rfl
  | true =>
    refine nsp_of fun m hm => ?_
    have := (num_bytes n.toNat n (Nat.le_refl _) h).1
    rw [List.all_eq_true] at this
    have := (dig_iff m).1 (this m hm)
    omega
theorem nsp_quote (s : ByteArray) : nsp (quote s) := by
  by_cases h : s.size ≤ 4096
  · exact nsp_of fun m hm => by rw [quote_bytes h] at hm; exact (quote_in s m hm).2.2
  · rw [quote, if_neg h]; exact nsp_lit rfl
theorem nsp_cond {b : Bool} {x y : ByteArray} (hx : nsp x) (hy : nsp y) : nsp (bif b then x else y) := by cases b <;> assumption
theorem nsp_word (k : Int) : nsp (wordOf k) := by
  rw [wordOf_is]
  repeat (first | exact nsp_lit rfl | with_reducible refine nsp_cond ?_ ?_)
theorem askW_nsp (q : Ask) : ∀ w ∈ askW q, nsp w := by
  intro w hw
  unfold askW at hw
  cases h1 : (q.kind == 1) <;> cases h2 : (q.kind == 2) <;> cases h3 : (q.kind == 3) <;> simp only [h1, h2, h3, cond_true, cond_false, List.mem_cons, List.not_mem_nil, or_false] at hw
  all_goals (first
    | (rcases hw with rfl | rfl | rfl | rfl; (exact nsp_cond (nsp_lit rfl) (nsp_lit rfl)); exact nsp_quote _; exact nsp_quote _; exact nsp_num _)
    | (rcases hw with rfl | rfl | rfl; (exact nsp_lit rfl); exact nsp_quote _; exact nsp_quote _)
    | (rcases hw with rfl | rfl; (exact nsp_lit rfl); exact nsp_quote _))
theorem callW_nsp (c : Call) : ∀ w ∈ callW c, nsp w := by
  intro w hw
  unfold callW at hw
  cases h1 : (c.kind == 1) <;> cases h2 : (c.kind == 3) <;> cases h3 : (c.kind == 4) <;> simp only [h1, h2, h3, cond_true, cond_false, List.mem_cons, List.not_mem_nil, or_false] at hw
  all_goals (first | exact askW_nsp _ w hw | (subst hw; exact nsp_lit rfl))
theorem wordsI_nsp (p : Step) : ∀ w ∈ wordsI p, nsp w := by
  intro w hw
  unfold wordsI at hw
  cases h1 : (p.kind == 1) <;> cases h2 : (p.kind == 5) <;> cases h3 : (p.kind == 7) <;> simp only [h1, h2, h3, cond_true, cond_false, List.mem_append, List.mem_cons, List.not_mem_nil, or_false, List.mem_map] at hw
  all_goals (first
    | (rcases hw with (rfl | rfl) | h; (exact nsp_lit rfl); exact nsp_num _; exact callW_nsp _ _ h)
    | (rcases hw with (rfl | rfl | rfl) | ⟨n, _, rfl⟩; exact nsp_word _; exact nsp_num _; exact nsp_num _; exact nsp_num _)
    | (rcases hw with rfl | rfl; exact nsp_word _; exact nsp_num _)
    | (subst hw; exact nsp_word _))
theorem wordsI_ne (p : Step) : wordsI p ≠ [] := by
  unfold wordsI
  cases (p.kind == 1) <;> cases (p.kind == 5) <;> cases (p.kind == 7) <;> simp
def call0 : Call := ⟨0, ask0 0 ⟨#[]⟩ ⟨#[]⟩⟩
theorem elW_call : elW 1 = (⟨#[99, 97, 108, 108]⟩ : ByteArray) := by rw [elW, wordsS_is]; rfl
theorem st_cases {p : Step} {s : ByteArray} (h : stS p = s) (hne : s ≠ ⟨#[]⟩) :
    (p = ⟨1, p.a, 0, [], p.call⟩ ∧ cOk p.call = true ∧ l01Num p.a = true ∧ ptsB 32 s = elW 1 :: numText p.a :: callW p.call) ∨
    (p = ⟨5, 0, 0, [], call0⟩ ∧ ptsB 32 s = [elW 5]) ∨
    (p = ⟨7, p.a, p.b, p.keep, call0⟩ ∧ l01Num p.a = true ∧ l01Num p.b = true ∧ p.keep.all l01Num = true ∧ ptsB 32 s = elW 7 :: numText p.a :: numText p.b :: p.keep.map numText) ∨
    (2 ≤ p.kind ∧ p.kind ≤ 9 ∧ p.kind ≠ 5 ∧ p.kind ≠ 7 ∧ p = ⟨p.kind, p.a, 0, [], call0⟩ ∧ l01Num p.a = true ∧ ptsB 32 s = [elW p.kind, numText p.a]) := by
  rw [← stI_eq] at h
  unfold stI at h
  cases e1 : c1I p with
  | true => rw [e1, cond_true] at h; exact absurd h.symm hne
  | false =>
    cases e2 : c2I p with
    | true => rw [e1, e2, cond_false, cond_true] at h; exact absurd h.symm hne
    | false =>
      cases e3 : noEmpty (wordsI p) with
      | false => rw [e1, e2, e3, cond_false, cond_false, cond_false] at h; exact absurd h.symm hne
      | true =>
        rw [e1, e2, e3, cond_false, cond_false, cond_true] at h
        have hp : ptsB 32 s = wordsI p := by rw [← h]; exact ptsB_join _ (wordsI_ne p) (wordsI_nsp p)
        rw [hp]
        unfold c1I at e1
        by_cases k1 : p.kind = 1
        · left
          obtain ⟨hb, hkeep, _⟩ := c2I_false (by omega) e2
          have hw : wordsI p = elW 1 :: numText p.a :: callW p.call := by unfold wordsI; rw [elW_call]; simp [k1]
          rw [hw, noEmpty_cons, noEmpty_cons, isE_num, Bool.not_not, Bool.and_eq_true, Bool.and_eq_true] at e3
          refine ⟨?_, ?_, e3.2.1, hw⟩
          · obtain ⟨kind, a, b, keep, call⟩ := p
            simp only at k1 hb hkeep
            subst k1; subst hb; subst hkeep
            rfl
          · cases hc : cOk p.call with
            | true => rfl
            | false => rw [show (p.kind == 1) = true by simp [k1], hc] at e1; cases ((p.call.kind == 0) && zA p.call.ask) <;> simp at e1
        · right
          rw [show (p.kind == 1) = false by simp [k1]] at e1
          have hcall : p.call = call0 := by
            cases hc : ((p.call.kind == 0) && zA p.call.ask) with
            | false => rw [hc] at e1; simp at e1
            | true =>
              rw [Bool.and_eq_true, beq_iff_eq] at hc
              have := zA_is hc.2
              generalize p.call = c at *
              obtain ⟨ck, ca⟩ := c
              simp only at hc this
              rw [this, hc.1]
              rfl
          have hz : ((p.call.kind == 0) && zA p.call.ask) = true := by rw [hcall]; simp [call0, ask0, zA]
          rw [hz] at e1
          have hword : isE (wordOf p.kind) = false := e1
          have hr : 2 ≤ p.kind ∧ p.kind ≤ 9 := by
            by_cases g : 2 ≤ p.kind ∧ p.kind ≤ 9
            · exact g
            · rw [wordOf_no g] at hword; cases hword
          have hel := (wordOf_el hr).1
          by_cases k7 : p.kind = 7
          · right; left
            have hw : wordsI p = elW 7 :: numText p.a :: numText p.b :: p.keep.map numText := by unfold wordsI; rw [hel]; simp [k7]
            rw [hw, noEmpty_cons, noEmpty_cons, noEmpty_cons, noEmpty_num, isE_num, isE_num, Bool.not_not, Bool.not_not, Bool.and_eq_true, Bool.and_eq_true, Bool.and_eq_true] at e3
            refine ⟨?_, e3.2.1, e3.2.2.1, e3.2.2.2, hw⟩
            obtain ⟨kind, a, b, keep, call⟩ := p
            simp only at k7 hcall
            subst k7; subst hcall
            rfl
          · obtain ⟨hb, hkeep, h5⟩ := c2I_false k7 e2
            by_cases k5 : p.kind = 5
            · left
              refine ⟨?_, ?_⟩
              · have ha := h5 k5
                obtain ⟨kind, a, b, keep, call⟩ := p
                simp only at k5 hcall hb hkeep ha
                subst k5; subst hcall; subst hb; subst hkeep; subst ha
                rfl
              · unfold wordsI; rw [hel]; simp [k5]
            · right; right
              have hw : wordsI p = [elW p.kind, numText p.a] := by unfold wordsI; rw [hel, show (p.kind == 1) = false by simp [k1], show (p.kind == 5) = false by simp [k5], show (p.kind == 7) = false by simp [k7]]; rfl
              rw [hw, noEmpty_cons, noEmpty_cons, isE_num, Bool.not_not, Bool.and_eq_true, Bool.and_eq_true] at e3
              refine ⟨hr.1, hr.2, k5, k7, ?_, e3.2.1, hw⟩
              obtain ⟨kind, a, b, keep, call⟩ := p
              simp only at hcall hb hkeep
              subst hcall; subst hb; subst hkeep
              rfl

/-! ### Words read -/
noncomputable def numAt (ws : List ByteArray) (i : Nat) : Int := match ws[i]? with
  | some w => (textNum w).1
  | none => 0
theorem s_l14Num_eq (ws : List ByteArray) (i : Nat) : s_l14Num ws (i : Int) = some (numAt ws i) := by
  simp only [s_l14Num, ws_l14Num, W.D, s_TextNum_eq]
  unfold numAt
  by_cases h : i < ws.length
  · rw [decide_eq_false (by omega : ¬ (i : Int) ≥ (ws.length : Int)), cond_false, getI_at (List.getElem?_eq_getElem h), List.getElem?_eq_getElem h]
    rfl
  · rw [decide_eq_true (by omega : (i : Int) ≥ (ws.length : Int)), cond_true, List.getElem?_eq_none (by omega)]
theorem s_l14Text_ex (ws : List ByteArray) (i : Nat) (hm : ∀ w ∈ ws, w.size ≤ 1048576) : ∃ t, s_l14Text ws (i : Int) = some t ∧ ∀ k : ByteArray, k.size ≤ 4096 → ws[i]? = some (quote k) → t = k := by
  simp only [s_l14Text, ws_l14Text, W.D]
  by_cases h : i < ws.length
  · obtain ⟨r, hr⟩ := s_Unquote_ex ws[i] (hm _ (List.getElem_mem h))
    rw [decide_eq_false (by omega : ¬ (i : Int) ≥ (ws.length : Int)), cond_false, getI_at (List.getElem?_eq_getElem h)]
    simp only [W.D]
    rw [hr]
    refine ⟨r.1, rfl, fun k hk e => ?_⟩
    rw [List.getElem?_eq_getElem h] at e
    rw [Option.some.inj e, s_Unquote_q hk] at hr
    rw [← Option.some.inj hr]
  · rw [decide_eq_true (by omega : (i : Int) ≥ (ws.length : Int)), cond_true]
    exact ⟨_, rfl, fun k hk e => by rw [List.getElem?_eq_none (by omega)] at e; cases e⟩
theorem i_quoted_ex (w : ByteArray) (h : w.size ≤ 1048576) : ∃ t, i_quoted w = some t ∧ ∀ k : ByteArray, k.size ≤ 4096 → w = quote k → t = k := by
  simp only [i_quoted, wi_quoted, W.D]
  obtain ⟨r, hr⟩ := i_Unquote_ex w h
  rw [hr]
  refine ⟨r.1, rfl, fun k hk e => ?_⟩
  rw [e, i_Unquote_q hk] at hr
  rw [← Option.some.inj hr]
theorem lit_eq {a b : ByteArray} {v : Bool} (h : (a.data.toList == b.data.toList) = v) : (a.toList == b.toList) = v := by rw [ByteArray.toList_eq, ByteArray.toList_eq]; exact h
theorem s_l14ReadCall_ex (ws : List ByteArray) (hm : ∀ w ∈ ws, w.size ≤ 1048576) : ∃ c, s_l14ReadCall ws = some c ∧ ∀ c0, cOk c0 = true → ws = callW c0 → c = c0 := by
  simp only [s_l14ReadCall, ws_l14ReadCall, W.D]
  obtain ⟨t1, h1, g1⟩ := s_l14Text_ex ws 1 hm
  obtain ⟨t2, h2, g2⟩ := s_l14Text_ex ws 2 hm
  have h3 := s_l14Num_eq ws 3
  rw [show ((1 : Nat) : Int) = 1 from rfl] at h1
  rw [show ((2 : Nat) : Int) = 2 from rfl] at h2
  rw [show ((3 : Nat) : Int) = 3 from rfl] at h3
  cases ws with
  | nil => exact ⟨_, rfl, fun c0 hc e => absurd e.symm (callW_ok hc).2⟩
  | cons w rest =>
    rw [show ((((w :: rest).length : Nat) : Int) == 0) = false by rw [beq_eq_false_iff_ne]; simp only [List.length_cons]; omega, cond_false, h1, h2]
    simp only [W.D]
    rw [show getI (w :: rest) 0 = some w from rfl, h3]
    simp only [W.D]
    refine ⟨_, rfl, fun c0 hc e => ?_⟩
    rcases cOk_is hc with rfl | rfl | rfl | ⟨hk, ha⟩
    · have e' : (w :: rest) = [(⟨#[98, 101, 103, 105, 110]⟩ : ByteArray)] := e
      cases e'
      rw [lit_eq (v := true) rfl]
      rfl
    · have e' : (w :: rest) = [(⟨#[99, 111, 109, 109, 105, 116]⟩ : ByteArray)] := e
      cases e'
      rw [lit_eq (v := false) rfl, lit_eq (v := true) rfl]
      rfl
    · have e' : (w :: rest) = [(⟨#[97, 98, 111, 114, 116]⟩ : ByteArray)] := e
      cases e'
      rw [lit_eq (v := false) rfl, lit_eq (v := false) rfl, lit_eq (v := true) rfl]
      rfl
    · obtain ⟨kind, ask⟩ := c0
      simp only at hk ha
      subst hk
      have e1 : callW ⟨2, ask⟩ = askW ask := rfl
      rw [e1] at e
      rcases aOk_is ha with ⟨k1, k2, k3⟩ | ⟨k1, k2, k3, k4⟩ | ⟨k1, k2, k3⟩ | ⟨k1, k2, k3, k4, k5, k6⟩
      · have e2 : askW ask = [(⟨#[103, 101, 116]⟩ : ByteArray), quote ask.key] := by simp [askW, k1]
        rw [e2] at e
        cases e
        rw [g1 ask.key (by omega) rfl, lit_eq (v := false) rfl, lit_eq (v := false) rfl, lit_eq (v := false) rfl, lit_eq (v := true) rfl, k2]
        rfl
      · have e2 : askW ask = [(⟨#[112, 117, 116]⟩ : ByteArray), quote ask.key, quote ask.val] := by simp [askW, k1]
        rw [e2] at e
        cases e
        rw [g1 ask.key (by omega) rfl, g2 ask.val (by omega) rfl, lit_eq (v := false) rfl, lit_eq (v := false) rfl, lit_eq (v := false) rfl, lit_eq (v := false) rfl, lit_eq (v := true) rfl, k2]
        rfl
      · have e2 : askW ask = [(⟨#[100, 101, 108]⟩ : ByteArray), quote ask.key] := by simp [askW, k1]
        rw [e2] at e
        cases e
        rw [g1 ask.key (by omega) rfl, lit_eq (v := false) rfl, lit_eq (v := false) rfl, lit_eq (v := false) rfl, lit_eq (v := false) rfl, lit_eq (v := false) rfl, lit_eq (v := true) rfl, k2]
        rfl
      · have e2 : askW ask = [bif ask.back then (⟨#[98, 97, 99, 107]⟩ : ByteArray) else (⟨#[115, 99, 97, 110]⟩ : ByteArray), quote ask.range.lo, quote ask.range.hi, numText ask.most] := by simp [askW, k1]
        rw [e2] at e
        injection e with ew er
        subst er
        have hn : numAt [w, quote ask.range.lo, quote ask.range.hi, numText ask.most] 3 = ask.most := by
          show (textNum (numText ask.most)).1 = ask.most
          rw [textNum_num (l01_of (by omega) (by omega))]
        rw [hn, g1 ask.range.lo (by omega) rfl, g2 ask.range.hi (by omega) rfl]
        obtain ⟨ak, akey, aval, ⟨alo, ahi⟩, amost, aback⟩ := ask
        cases k2
        cases aback with
        | false =>
          rw [cond_false] at ew
          subst ew
          rw [lit_eq (v := false) rfl, lit_eq (v := false) rfl, lit_eq (v := false) rfl, lit_eq (v := false) rfl, lit_eq (v := false) rfl, lit_eq (v := false) rfl, lit_eq (v := true) rfl, lit_eq (v := false) rfl]
          rfl
        | true =>
          rw [cond_true] at ew
          subst ew
          rw [lit_eq (v := false) rfl, lit_eq (v := false) rfl, lit_eq (v := false) rfl, lit_eq (v := false) rfl, lit_eq (v := false) rfl, lit_eq (v := false) rfl, lit_eq (v := false) rfl, lit_eq (v := true) rfl]
          rfl
end Go.Proofs.YtagoajkiccgmjaaDoor
namespace Go.Proofs.YtagoajkiccgmjaaDoor
open Go.Mv Go.RowKit

/-! ### The words of a call read -/
theorem i_quoted_q {k : ByteArray} (hk : k.size ≤ 4096) : i_quoted (quote k) = some k := by
  simp only [i_quoted, wi_quoted, W.D, i_Unquote_q hk]
theorem i_quoted_some (w : ByteArray) (h : w.size ≤ 1048576) : ∃ t, i_quoted w = some t := by
  obtain ⟨t, e, _⟩ := i_quoted_ex w h
  exact ⟨t, e⟩
theorem getI_none {α : Type} : getI ([] : List α) 0 = none := rfl
theorem i_textCall_some (ws : List ByteArray) (hm : ∀ w ∈ ws, w.size ≤ 1048576) : ∃ c, i_textCall ws = some c := by
  simp only [i_textCall, wi_textCall, W.D, i_TextNum_eq]
  match ws, hm with
  | [], hm => exact ⟨_, rfl⟩
  | [w], hm =>
    simp only [show getI [w] 0 = some w from rfl, show (((([w] : List ByteArray).length : Nat) : Int) == 1) = true from rfl, show (((([w] : List ByteArray).length : Nat) : Int) == 2) = false from rfl, show (((([w] : List ByteArray).length : Nat) : Int) == 3) = false from rfl, show (((([w] : List ByteArray).length : Nat) : Int) == 4) = false from rfl, cond_true, cond_false, W.D]
    exact ⟨_, rfl⟩
  | [w, a], hm =>
    obtain ⟨t, ht⟩ := i_quoted_some a (hm a (by simp))
    simp only [show getI [w, a] 0 = some w from rfl, show getI [w, a] 1 = some a from rfl, ht, show (((([w, a] : List ByteArray).length : Nat) : Int) == 1) = false from rfl, show (((([w, a] : List ByteArray).length : Nat) : Int) == 2) = true from rfl, show (((([w, a] : List ByteArray).length : Nat) : Int) == 3) = false from rfl, show (((([w, a] : List ByteArray).length : Nat) : Int) == 4) = false from rfl, cond_true, cond_false, W.D]
    exact ⟨_, rfl⟩
  | [w, a, b], hm =>
    obtain ⟨t, ht⟩ := i_quoted_some a (hm a (by simp))
    obtain ⟨u, hu⟩ := i_quoted_some b (hm b (by simp))
    simp only [show getI [w, a, b] 0 = some w from rfl, show getI [w, a, b] 1 = some a from rfl, show getI [w, a, b] 2 = some b from rfl, ht, hu, show (((([w, a, b] : List ByteArray).length : Nat) : Int) == 1) = false from rfl, show (((([w, a, b] : List ByteArray).length : Nat) : Int) == 2) = false from rfl, show (((([w, a, b] : List ByteArray).length : Nat) : Int) == 3) = true from rfl, show (((([w, a, b] : List ByteArray).length : Nat) : Int) == 4) = false from rfl, cond_true, cond_false, W.D]
    exact ⟨_, rfl⟩
  | [w, a, b, c], hm =>
    obtain ⟨t, ht⟩ := i_quoted_some a (hm a (by simp))
    obtain ⟨u, hu⟩ := i_quoted_some b (hm b (by simp))
    simp only [show getI [w, a, b, c] 0 = some w from rfl, show getI [w, a, b, c] 1 = some a from rfl, show getI [w, a, b, c] 2 = some b from rfl, show getI [w, a, b, c] 3 = some c from rfl, ht, hu, show (((([w, a, b, c] : List ByteArray).length : Nat) : Int) == 1) = false from rfl, show (((([w, a, b, c] : List ByteArray).length : Nat) : Int) == 2) = false from rfl, show (((([w, a, b, c] : List ByteArray).length : Nat) : Int) == 3) = false from rfl, show (((([w, a, b, c] : List ByteArray).length : Nat) : Int) == 4) = true from rfl, cond_true, cond_false, W.D]
    exact ⟨_, rfl⟩
  | w :: a :: b :: c :: d :: r, hm =>
    have hl : ∀ n : Int, n ≤ 4 → (((((w :: a :: b :: c :: d :: r) : List ByteArray).length : Nat) : Int) == n) = false := fun n hn => by
      rw [beq_eq_false_iff_ne]; simp only [List.length_cons]; omega
    simp only [hl 1 (by decide), hl 2 (by decide), hl 3 (by decide), hl 4 (by decide), cond_false, W.D]
    exact ⟨_, rfl⟩
theorem i_textCall_q {c : Call} (h : cOk c = true) : i_textCall (callW c) = some c := by
  simp only [i_textCall, wi_textCall, W.D, i_TextNum_eq]
  rcases cOk_is h with rfl | rfl | rfl | ⟨hk, ha⟩
  · rw [show callW ⟨1, ask0 0 ⟨#[]⟩ ⟨#[]⟩⟩ = [(⟨#[98, 101, 103, 105, 110]⟩ : ByteArray)] from rfl]
    simp only [show ∀ w : ByteArray, getI [w] 0 = some w from fun _ => rfl, show ∀ w : ByteArray, (((([w] : List ByteArray).length : Nat) : Int) == 1) = true from fun _ => rfl, cond_true, W.D]
    rw [lit_eq (v := true) rfl]
    rfl
  · rw [show callW ⟨3, ask0 0 ⟨#[]⟩ ⟨#[]⟩⟩ = [(⟨#[99, 111, 109, 109, 105, 116]⟩ : ByteArray)] from rfl]
    simp only [show ∀ w : ByteArray, getI [w] 0 = some w from fun _ => rfl, show ∀ w : ByteArray, (((([w] : List ByteArray).length : Nat) : Int) == 1) = true from fun _ => rfl, cond_true, W.D]
    rw [lit_eq (v := false) rfl, lit_eq (v := true) rfl]
    rfl
  · rw [show callW ⟨4, ask0 0 ⟨#[]⟩ ⟨#[]⟩⟩ = [(⟨#[97, 98, 111, 114, 116]⟩ : ByteArray)] from rfl]
    simp only [show ∀ w : ByteArray, getI [w] 0 = some w from fun _ => rfl, show ∀ w : ByteArray, (((([w] : List ByteArray).length : Nat) : Int) == 1) = true from fun _ => rfl, cond_true, W.D]
    rw [lit_eq (v := false) rfl, lit_eq (v := false) rfl, lit_eq (v := true) rfl]
    rfl
  · obtain ⟨kind, ask⟩ := c
    simp only at hk ha
    subst hk
    have e1 : callW ⟨2, ask⟩ = askW ask := rfl
    rw [e1]
    rcases aOk_is ha with ⟨k1, k2, k3⟩ | ⟨k1, k2, k3, k4⟩ | ⟨k1, k2, k3⟩ | ⟨k1, k2, k3, k4, k5, k6⟩
    · have e2 : askW ask = [(⟨#[103, 101, 116]⟩ : ByteArray), quote ask.key] := by simp [askW, k1]
      rw [e2]
      simp only [show ∀ w a : ByteArray, getI [w, a] 0 = some w from fun _ _ => rfl, show ∀ w a : ByteArray, getI [w, a] 1 = some a from fun _ _ => rfl, show ∀ w a : ByteArray, (((([w, a] : List ByteArray).length : Nat) : Int) == 1) = false from fun _ _ => rfl, show ∀ w a : ByteArray, (((([w, a] : List ByteArray).length : Nat) : Int) == 2) = true from fun _ _ => rfl, cond_true, cond_false, W.D, i_quoted_q (show ask.key.size ≤ 4096 by omega)]
      rw [lit_eq (v := true) rfl, k2]
      rfl
    · have e2 : askW ask = [(⟨#[112, 117, 116]⟩ : ByteArray), quote ask.key, quote ask.val] := by simp [askW, k1]
      rw [e2]
      simp only [show ∀ w a b : ByteArray, getI [w, a, b] 0 = some w from fun _ _ _ => rfl, show ∀ w a b : ByteArray, getI [w, a, b] 1 = some a from fun _ _ _ => rfl, show ∀ w a b : ByteArray, getI [w, a, b] 2 = some b from fun _ _ _ => rfl, show ∀ w a b : ByteArray, (((([w, a, b] : List ByteArray).length : Nat) : Int) == 1) = false from fun _ _ _ => rfl, show ∀ w a b : ByteArray, (((([w, a, b] : List ByteArray).length : Nat) : Int) == 2) = false from fun _ _ _ => rfl, show ∀ w a b : ByteArray, (((([w, a, b] : List ByteArray).length : Nat) : Int) == 3) = true from fun _ _ _ => rfl, cond_true, cond_false, W.D, i_quoted_q (show ask.key.size ≤ 4096 by omega), i_quoted_q (show ask.val.size ≤ 4096 by omega)]
      rw [lit_eq (v := true) rfl, k2]
      rfl
    · have e2 : askW ask = [(⟨#[100, 101, 108]⟩ : ByteArray), quote ask.key] := by simp [askW, k1]
      rw [e2]
      simp only [show ∀ w a : ByteArray, getI [w, a] 0 = some w from fun _ _ => rfl, show ∀ w a : ByteArray, getI [w, a] 1 = some a from fun _ _ => rfl, show ∀ w a : ByteArray, (((([w, a] : List ByteArray).length : Nat) : Int) == 1) = false from fun _ _ => rfl, show ∀ w a : ByteArray, (((([w, a] : List ByteArray).length : Nat) : Int) == 2) = true from fun _ _ => rfl, cond_true, cond_false, W.D, i_quoted_q (show ask.key.size ≤ 4096 by omega)]
      rw [lit_eq (v := false) rfl, lit_eq (v := true) rfl, k2]
      rfl
    · have e2 : askW ask = [bif ask.back then (⟨#[98, 97, 99, 107]⟩ : ByteArray) else (⟨#[115, 99, 97, 110]⟩ : ByteArray), quote ask.range.lo, quote ask.range.hi, numText ask.most] := by simp [askW, k1]
      rw [e2]
      generalize hw : (bif ask.back then (⟨#[98, 97, 99, 107]⟩ : ByteArray) else (⟨#[115, 99, 97, 110]⟩ : ByteArray)) = w
      simp only [show ∀ w a b c : ByteArray, getI [w, a, b, c] 0 = some w from fun _ _ _ _ => rfl, show ∀ w a b c : ByteArray, getI [w, a, b, c] 1 = some a from fun _ _ _ _ => rfl, show ∀ w a b c : ByteArray, getI [w, a, b, c] 2 = some b from fun _ _ _ _ => rfl, show ∀ w a b c : ByteArray, getI [w, a, b, c] 3 = some c from fun _ _ _ _ => rfl, show ∀ w a b c : ByteArray, (((([w, a, b, c] : List ByteArray).length : Nat) : Int) == 1) = false from fun _ _ _ _ => rfl, show ∀ w a b c : ByteArray, (((([w, a, b, c] : List ByteArray).length : Nat) : Int) == 2) = false from fun _ _ _ _ => rfl, show ∀ w a b c : ByteArray, (((([w, a, b, c] : List ByteArray).length : Nat) : Int) == 3) = false from fun _ _ _ _ => rfl, show ∀ w a b c : ByteArray, (((([w, a, b, c] : List ByteArray).length : Nat) : Int) == 4) = true from fun _ _ _ _ => rfl, cond_true, cond_false, W.D, i_quoted_q (show ask.range.lo.size ≤ 4096 by omega), i_quoted_q (show ask.range.hi.size ≤ 4096 by omega), textNum_num (l01_of (m := ask.most) (by omega) (by omega))]
      obtain ⟨ak, akey, aval, ⟨alo, ahi⟩, amost, aback⟩ := ask
      cases k2
      cases aback with
      | false =>
        rw [cond_false] at hw
        subst hw
        rw [lit_eq (v := true) rfl, lit_eq (v := false) rfl]
        rfl
      | true =>
        rw [cond_true] at hw
        subst hw
        rw [lit_eq (v := false) rfl, lit_eq (v := true) rfl]
        rfl

/-! ### The kind of a step read -/
theorem words_inj : ∀ i j : Fin 10, ([(⟨#[]⟩ : ByteArray), (⟨#[99, 97, 108, 108]⟩ : ByteArray), (⟨#[100, 101, 108, 105, 118, 101, 114]⟩ : ByteArray), (⟨#[108, 111, 115, 101]⟩ : ByteArray), (⟨#[100, 111, 117, 98, 108, 101]⟩ : ByteArray), (⟨#[116, 105, 99, 107]⟩ : ByteArray), (⟨#[100, 111, 119, 110]⟩ : ByteArray), (⟨#[116, 111, 114, 110]⟩ : ByteArray), (⟨#[117, 112]⟩ : ByteArray), (⟨#[99, 97, 108, 109]⟩ : ByteArray)] : List ByteArray)[i.1]?.getD ⟨#[]⟩ = ([(⟨#[]⟩ : ByteArray), (⟨#[99, 97, 108, 108]⟩ : ByteArray), (⟨#[100, 101, 108, 105, 118, 101, 114]⟩ : ByteArray), (⟨#[108, 111, 115, 101]⟩ : ByteArray), (⟨#[100, 111, 117, 98, 108, 101]⟩ : ByteArray), (⟨#[116, 105, 99, 107]⟩ : ByteArray), (⟨#[100, 111, 119, 110]⟩ : ByteArray), (⟨#[116, 111, 114, 110]⟩ : ByteArray), (⟨#[117, 112]⟩ : ByteArray), (⟨#[99, 97, 108, 109]⟩ : ByteArray)] : List ByteArray)[j.1]?.getD ⟨#[]⟩ → i = j := by decide +kernel
theorem elW_inj {i j : Int} (hi : 0 ≤ i ∧ i ≤ 9) (hj : 0 ≤ j ∧ j ≤ 9) (h : elW i = elW j) : i = j := by
  unfold elW at h
  rw [wordsS_is] at h
  have := congrArg Fin.val (words_inj ⟨i.toNat, by omega⟩ ⟨j.toNat, by omega⟩ h)
  simp only at this
  omega
theorem getI_words0 {k : Int} (h : 0 ≤ k ∧ k ≤ 9) : getI wordsS k = some (elW k) := by
  by_cases e : k = 0
  · subst e; rw [elW, wordsS_is]; rfl
  · exact getI_words ⟨by omega, h.2⟩
theorem wordsS_len : wordsS.length = 10 := by rw [wordsS_is]; rfl
theorem weq (a b : ByteArray) : (a.toList == b.toList) = decide (a = b) := by
  by_cases h : a = b
  · subst h; simp
  · rw [decide_eq_false h, beq_eq_false_iff_ne]
    exact fun e => h (ba_ext e)
theorem s_loopKind (p w : ByteArray) (ws : List ByteArray) (hw : getI ws 0 = some w) : ∃ r, loopT (fun s => (Bs_TextStep_1 p ws wordsS s).den) ⟨0, 0⟩ = some r ∧ ∀ k, 1 ≤ k → k ≤ 9 → elW k = w → r = k := by
  refine loopT_ex (f := fun s => (Bs_TextStep_1 p ws wordsS s).den) (fun r : Int => ∀ k, 1 ≤ k → k ≤ 9 → elW k = w → r = k) (fun s : Ss_TextStep_1 => 0 ≤ s.v14 ∧ s.v14 ≤ 10 ∧ ∀ k, 1 ≤ k → k < s.v14 → elW k = w → s.w4_0_0 = k) (fun s => (10 - s.v14).toNat) (fun s hs => ?_) ⟨0, 0⟩ ⟨by decide, by decide, fun k h1 h2 => by simp only at h2; omega⟩
  obtain ⟨i, cur⟩ := s
  obtain ⟨h0, h1, h2⟩ := hs
  simp only at h0 h1 h2
  simp only [Bs_TextStep_1, W.D, hw, wordsS_len]
  by_cases h : i < 10
  · right
    rw [show decide (i < ((10 : Nat) : Int)) = true from decide_eq_true h, cond_true, getI_words0 ⟨h0, by omega⟩]
    simp only [W.D]
    rw [wrapL _ (by omega) (by omega), weq]
    refine ⟨_, rfl, ⟨by simp only; omega, by simp only; omega, fun k k1 k2 e => ?_⟩, by simp only; omega⟩
    simp only at k2 ⊢
    by_cases hk : k = i
    · subst hk
      rw [decide_eq_true (by omega : k > 0), decide_eq_true e]
      rfl
    · have hx : elW i ≠ w := fun e2 => hk (elW_inj ⟨by omega, by omega⟩ ⟨by omega, by omega⟩ (e.trans e2.symm))
      rw [decide_eq_false hx]
      have := h2 k k1 (by omega) e
      cases decide (i > 0) <;> exact this
  · left
    rw [show decide (i < ((10 : Nat) : Int)) = false from decide_eq_false h, cond_false]
    exact ⟨_, rfl, fun k k1 k2 e => h2 k k1 (by omega) e⟩
theorem i_loopKind (p w : ByteArray) (ws : List ByteArray) (hw : getI ws 0 = some w) : ∃ r, loopT (fun s => (Bi_TextStep_1 p ws s).den) ⟨2, 0⟩ = some r ∧ ∀ k, 2 ≤ k → k ≤ 9 → elW k = w → r = k := by
  refine loopT_ex (f := fun s => (Bi_TextStep_1 p ws s).den) (fun r : Int => ∀ k, 2 ≤ k → k ≤ 9 → elW k = w → r = k) (fun s : Si_TextStep_1 => 2 ≤ s.v6 ∧ s.v6 ≤ 10 ∧ ∀ k, 2 ≤ k → k < s.v6 → elW k = w → s.w5_0_0 = k) (fun s => (10 - s.v6).toNat) (fun s hs => ?_) ⟨2, 0⟩ ⟨by decide, by decide, fun k h1 h2 => by simp only at h2; omega⟩
  obtain ⟨i, cur⟩ := s
  obtain ⟨h0, h1, h2⟩ := hs
  simp only at h0 h1 h2
  simp only [Bi_TextStep_1, W.D, hw, i_wordOf_eq]
  by_cases h : i ≤ 9
  · right
    rw [decide_eq_true h, cond_true, wrapL _ (by omega) (by omega), weq, (wordOf_el ⟨h0, h⟩).1]
    refine ⟨_, rfl, ⟨by simp only; omega, by simp only; omega, fun k k1 k2 e => ?_⟩, by simp only; omega⟩
    simp only at k2 ⊢
    by_cases hk : k = i
    · subst hk
      rw [decide_eq_true e]
      rfl
    · have hx : elW i ≠ w := fun e2 => hk (elW_inj ⟨by omega, by omega⟩ ⟨by omega, by omega⟩ (e.trans e2.symm))
      rw [decide_eq_false hx]
      exact h2 k k1 (by omega) e
  · left
    rw [decide_eq_false h, cond_false]
    exact ⟨_, rfl, fun k k1 k2 e => h2 k k1 (by omega) e⟩
end Go.Proofs.YtagoajkiccgmjaaDoor
namespace Go.Proofs.YtagoajkiccgmjaaDoor
open Go.Mv Go.RowKit

/-! ### A step read -/
noncomputable def step0 : Step := ⟨0, 0, 0, [], call0⟩
noncomputable def numsOf3 (ws : List ByteArray) : List Int := (ws.drop 3).map fun w => (textNum w).1
theorem s_loopKeep (p : ByteArray) (ws : List ByteArray) (j r : Int) (x : Xs_TextStep_5) (r' : Int) (hl : ws.length ≤ 1048577) : loopT (fun s => (Bs_TextStep_2 p ws j r x r' s).den) ⟨3, []⟩ = some (numsOf3 ws) := by
  refine (loopT_val (fun s : Ss_TextStep_2 => some (s.w4_0_3 ++ (ws.drop s.v8.toNat).map fun w => (textNum w).1)) (fun s => ∃ k : Nat, s.v8 = k ∧ k ≤ 1048578 ∧ s.w4_0_3.length ≤ k) (fun s => ws.length - s.v8.toNat) (fun s hs => ?_) ⟨3, []⟩ ⟨3, rfl, by decide, by simp⟩).trans (by simp [numsOf3])
  obtain ⟨v8, v3⟩ := s
  obtain ⟨k, hk, hkl, hv⟩ := hs
  simp only at hk hv
  subst hk
  simp only [Bs_TextStep_2, W.D, s_l14Num_eq, Int.toNat_natCast]
  by_cases h : k < ws.length
  · right
    obtain ⟨w, hx, hd⟩ := getI_drop h
    rw [getI_nat] at hx
    rw [decide_eq_true (by omega : (k : Int) < (ws.length : Int)), cond_true, if_pos (by simp only [List.length_cons, List.length_nil]; omega), wrapL _ (by omega) (by omega), hd]
    refine ⟨_, rfl, ⟨k + 1, by simp, by omega, by simp only [List.length_append, List.length_cons, List.length_nil]; omega⟩, by simp only; omega, ?_⟩
    have hn : numAt ws k = (textNum w).1 := by unfold numAt; rw [hx]
    rw [hn]
    simp only [List.map_cons, List.append_assoc, List.singleton_append]
    rfl
  · left
    rw [decide_eq_false (by omega), cond_false]
    exact ⟨_, rfl, by rw [List.drop_eq_nil_of_le (by omega)]; simp⟩
theorem i_loopKeep (ws : List ByteArray) (hl : ws.length ≤ 1048577) : loopT (fun s => (Bi_TextStep_2 ws s).den) ⟨0, []⟩ = some (numsOf3 ws) := by
  have hd3 : (ws.take ws.length).drop 3 = ws.drop 3 := by rw [List.take_of_length_le (Nat.le_refl _)]
  generalize hv : ws.drop 3 = vs at *
  have hvl : vs.length ≤ 1048577 := by rw [← hv, List.length_drop]; omega
  have hfin : numsOf3 ws = vs.map fun w => (textNum w).1 := by rw [numsOf3, hv]
  rw [hfin]
  refine (loopT_val (fun s : Si_TextStep_2 => some (s.w5_0_3 ++ (vs.drop s.v70.toNat).map fun w => (textNum w).1)) (fun s => ∃ k : Nat, s.v70 = k ∧ k ≤ vs.length ∧ s.w5_0_3.length ≤ k) (fun s => vs.length - s.v70.toNat) (fun s hs => ?_) ⟨0, []⟩ ⟨0, rfl, Nat.zero_le _, by simp⟩).trans (by simp)
  obtain ⟨v70, v3⟩ := s
  obtain ⟨k, hk, hkl, hv⟩ := hs
  simp only at hk hv
  subst hk
  simp only [Bi_TextStep_2, W.D, i_TextNum_eq, Int.toNat_natCast, hd3]
  by_cases h : k < vs.length
  · right
    obtain ⟨w, hx, hd⟩ := getI_drop h
    rw [decide_eq_true (by omega : (k : Int) < (vs.length : Int)), cond_true, hx, hd]
    simp only [W.D]
    rw [if_pos (by simp only [List.length_cons, List.length_nil]; omega), wrapL _ (by omega) (by omega)]
    refine ⟨_, rfl, ⟨k + 1, by simp, by omega, by simp only [List.length_append, List.length_cons, List.length_nil]; omega⟩, by simp only; omega, ?_⟩
    simp only [List.map_cons, List.append_assoc, List.singleton_append]
    rfl
  · left
    rw [decide_eq_false (by omega), cond_false]
    exact ⟨_, rfl, by rw [List.drop_eq_nil_of_le (by omega)]; simp⟩
theorem numsOf3_len (ws : List ByteArray) (hl : ws.length ≤ 1048577) : (numsOf3 ws).length ≤ 1048576 := by
  rw [numsOf3, List.length_map, List.length_drop]; omega
theorem nums_of : ∀ l : List Int, l.all l01Num = true → (l.map numText).map (fun w => (textNum w).1) = l
  | [], _ => rfl
  | n :: l, h => by
    rw [List.all_cons, Bool.and_eq_true] at h
    rw [List.map_cons, List.map_cons, nums_of l h.2, textNum_num h.1]
/-- What a text gives: the step, if it is written so again. -/
noncomputable def gives14 (p : ByteArray) (x : Step) : Step × Bool := bif (bif p.toList == (⟨#[]⟩ : ByteArray).toList then true else !((stS x).toList == p.toList)) then (step0, false) else (x, true)
def Reads (p : ByteArray) (x : Step) : Prop := ∀ y, stS y = p → p ≠ ⟨#[]⟩ → x = y
theorem callW_pos {c : Call} (h : cOk c = true) : 1 ≤ (callW c).length := by
  have := (callW_ok h).2
  cases hw : callW c with
  | nil => exact absurd hw this
  | cons x xs => simp
theorem s_TextStep_ex (p : ByteArray) (hp : p.size ≤ 1048576) : ∃ x, s_TextStep p = some (gives14 p x) ∧ x.keep.length ≤ 1048576 ∧ Reads p x := by
  have hs := s_l07Parts_eq 32 p hp
  rw [show (((32 : UInt8).toNat : Nat) : Int) = 32 from rfl] at hs
  have hl := ptsB_len 32 p
  have hm : ∀ w ∈ ptsB 32 p, w.size ≤ 1048576 := fun w hw => Nat.le_trans (ptsB_mem hw) hp
  have hne := ptsB_ne 32 p
  have hcase := fun (y : Step) (h : stS y = p) (h2 : p ≠ ⟨#[]⟩) => st_cases h h2
  simp only [s_TextStep, ws_TextStep, W.D, hs, s_l14Words_eq]
  generalize ptsB 32 p = ws at *
  obtain ⟨w0, hw0⟩ : ∃ w, getI ws 0 = some w := by
    cases ws with
    | nil => exact absurd rfl hne
    | cons w r => exact ⟨w, rfl⟩
  obtain ⟨j, hj, gj⟩ := s_loopKind p w0 ws hw0
  rw [hj]
  simp only [W.D]
  rw [show s_l14Num ws 1 = some (numAt ws 1) from s_l14Num_eq ws 1, show s_l14Num ws 2 = some (numAt ws 2) from s_l14Num_eq ws 2]
  simp only [W.D]
  have htk : ((ws.take ((ws.length : Int)).toNat).drop 2) = ws.drop 2 := by rw [Int.toNat_natCast, List.take_of_length_le (Nat.le_refl _)]
  rw [htk]
  obtain ⟨c, hc, gc⟩ := s_l14ReadCall_ex (ws.drop 2) fun w hw => hm w (List.mem_of_mem_drop hw)
  rw [hc]
  have hcond : (bif (bif j == 1 then decide ((ws.length : Int) > 2) else false) then (if 0 ≤ (2 : Int) ∧ (2 : Int) ≤ (ws.length : Int) ∧ (ws.length : Int) ≤ (ws.length : Int) then Mv.bnd (some c) (fun r => some (⟨r.kind, r.ask.kind, r.ask.key, r.ask.val, r.ask.range.lo, r.ask.range.hi, r.ask.most, r.ask.back⟩ : Xs_TextStep_5)) else none) else some (⟨0, 0, ⟨#[]⟩, ⟨#[]⟩, ⟨#[]⟩, ⟨#[]⟩, 0, false⟩ : Xs_TextStep_5)) =
      some ((fun r : Call => (⟨r.kind, r.ask.kind, r.ask.key, r.ask.val, r.ask.range.lo, r.ask.range.hi, r.ask.most, r.ask.back⟩ : Xs_TextStep_5)) (bif (bif j == 1 then decide ((ws.length : Int) > 2) else false) then c else call0)) := by
    cases hb : (bif j == 1 then decide ((ws.length : Int) > 2) else false) with
    | false => rfl
    | true =>
      have : (ws.length : Int) > 2 := by
        cases hj1 : (j == 1) with
        | false => rw [hj1] at hb; cases hb
        | true => rw [hj1, cond_true] at hb; exact of_decide_eq_true hb
      rw [cond_true, if_pos (by omega)]
      rfl
  rw [hcond]
  simp only [W.D, s_loopKeep p ws j _ _ _ (by omega)]
  have hx : ∀ (b : Int) (keep : List Int), b = (bif j == 7 then numAt ws 2 else 0) → keep = (bif j == 7 then numsOf3 ws else []) → ∃ x, some (bif (bif p.toList == (⟨#[]⟩ : ByteArray).toList then true else !((stS ⟨j, numAt ws 1, b, keep, bif (bif j == 1 then decide ((ws.length : Int) > 2) else false) then c else call0⟩).toList == p.toList)) then (step0, false) else ((⟨j, numAt ws 1, b, keep, bif (bif j == 1 then decide ((ws.length : Int) > 2) else false) then c else call0⟩ : Step), true)) = some (gives14 p x) ∧ x.keep.length ≤ 1048576 ∧ Reads p x := fun b keep hb hk => by
    refine ⟨_, rfl, ?_, fun y hy hne' => ?_⟩
    · simp only
      rw [hk]
      cases (j == 7) with
      | true => exact numsOf3_len ws (by omega)
      | false => exact Nat.zero_le _
    · rcases hcase y hy hne' with ⟨e, e1, e2, e3⟩ | ⟨e, e3⟩ | ⟨e, e1, e2, e4, e3⟩ | ⟨e1, e2, e5, e7, e, e4, e3⟩
      · have hw : w0 = elW 1 := by rw [e3] at hw0; exact (Option.some.inj hw0).symm
        have hj1 : j = 1 := gj 1 (by decide) (by decide) hw.symm
        have hc1 := gc y.call e1 (by rw [e3]; rfl)
        have hlen := callW_pos e1
        have h2 : (ws.length : Int) > 2 := by rw [e3]; simp only [List.length_cons]; omega
        have hn : numAt ws 1 = y.a := by rw [e3]; show (textNum (numText y.a)).1 = y.a; rw [textNum_num e2]
        rw [hb, hk, hj1, hn, hc1, decide_eq_true h2]
        exact e.symm
      · have hw : w0 = elW 5 := by rw [e3] at hw0; exact (Option.some.inj hw0).symm
        have hj1 : j = 5 := gj 5 (by decide) (by decide) hw.symm
        have hn : numAt ws 1 = 0 := by rw [e3]; rfl
        rw [hb, hk, hj1, hn]
        exact e.symm
      · have hw : w0 = elW 7 := by rw [e3] at hw0; exact (Option.some.inj hw0).symm
        have hj1 : j = 7 := gj 7 (by decide) (by decide) hw.symm
        have hn : numAt ws 1 = y.a := by rw [e3]; show (textNum (numText y.a)).1 = y.a; rw [textNum_num e1]
        have hn2 : numAt ws 2 = y.b := by rw [e3]; show (textNum (numText y.b)).1 = y.b; rw [textNum_num e2]
        have hn3 : numsOf3 ws = y.keep := by rw [numsOf3, e3]; exact nums_of _ e4
        rw [hb, hk, hj1, hn, hn2, hn3]
        exact e.symm
      · have hw : w0 = elW y.kind := by rw [e3] at hw0; exact (Option.some.inj hw0).symm
        have hj1 : j = y.kind := gj y.kind (by omega) e2 hw.symm
        have hn : numAt ws 1 = y.a := by rw [e3]; show (textNum (numText y.a)).1 = y.a; rw [textNum_num e4]
        have hk1 : (j == 1) = false := by rw [beq_eq_false_iff_ne]; omega
        have hk7 : (j == 7) = false := by rw [beq_eq_false_iff_ne]; omega
        rw [hb, hk, hk1, hk7, hn, hj1]
        exact e.symm
  cases h7 : (j == 7) with
  | true =>
    rw [cond_true]
    simp only [W.D]
    rw [show s_StepText _ = some (stS ⟨j, numAt ws 1, numAt ws 2, numsOf3 ws, bif (bif j == 1 then decide ((ws.length : Int) > 2) else false) then c else call0⟩) from s_StepText_eq _ (numsOf3_len ws (by omega))]
    simp only [W.D]
    exact hx _ _ (by rw [h7]; rfl) (by rw [h7]; rfl)
  | false =>
    rw [cond_false]
    simp only [W.D]
    rw [show s_StepText _ = some (stS ⟨j, numAt ws 1, 0, [], bif (bif j == 1 then decide ((ws.length : Int) > 2) else false) then c else call0⟩) from s_StepText_eq _ (Nat.zero_le _)]
    simp only [W.D]
    exact hx _ _ (by rw [h7]; rfl) (by rw [h7]; rfl)
end Go.Proofs.YtagoajkiccgmjaaDoor
namespace Go.Proofs.YtagoajkiccgmjaaDoor
open Go.Mv Go.RowKit

theorem call_is (w : ByteArray) : (w.toList == (⟨#[99, 97, 108, 108]⟩ : ByteArray).toList) = decide (w = elW 1) := by rw [elW_call, weq]
theorem i_TextStep_ex (p : ByteArray) (hp : p.size ≤ 1048576) : ∃ x, i_TextStep p = some (gives14 p x) ∧ x.keep.length ≤ 1048576 ∧ Reads p x := by
  have hs := st_Split_eq 32 p hp
  have hl := ptsB_len 32 p
  have hm : ∀ w ∈ ptsB 32 p, w.size ≤ 1048576 := fun w hw => Nat.le_trans (ptsB_mem hw) hp
  have hne := ptsB_ne 32 p
  have hcase := fun (y : Step) (h : stS y = p) (h2 : p ≠ ⟨#[]⟩) => st_cases h h2
  simp only [i_TextStep, wi_TextStep, W.D, hs, i_TextNum_eq]
  generalize ptsB 32 p = ws at *
  obtain ⟨w0, hw0⟩ : ∃ w, getI ws 0 = some w := by
    cases ws with
    | nil => exact absurd rfl hne
    | cons w r => exact ⟨w, rfl⟩
  obtain ⟨j, hj, gj⟩ := i_loopKind p w0 ws hw0
  rw [hj, hw0]
  simp only [W.D, call_is]
  have ha : (bif decide ((ws.length : Int) > 1) then Mv.bnd (getI ws 1) (fun r => some (textNum r).1) else some 0) = some (numAt ws 1) := by
    unfold numAt
    by_cases h : 1 < ws.length
    · rw [decide_eq_true (by omega : (ws.length : Int) > 1), cond_true, show getI ws 1 = some ws[1] from getI_at (k := 1) (List.getElem?_eq_getElem h), List.getElem?_eq_getElem h]
      rfl
    · rw [decide_eq_false (by omega : ¬ (ws.length : Int) > 1), cond_false, List.getElem?_eq_none (by omega)]
  rw [ha]
  simp only [W.D]
  have htk : ((ws.take ((ws.length : Int)).toNat).drop 2) = ws.drop 2 := by rw [Int.toNat_natCast, List.take_of_length_le (Nat.le_refl _)]
  rw [htk]
  obtain ⟨c, hc⟩ := i_textCall_some (ws.drop 2) fun w hw => hm w (List.mem_of_mem_drop hw)
  rw [hc]
  generalize hq : (bif decide (w0 = elW 1) then decide ((ws.length : Int) > 2) else false) = q
  have hq2 : q = true → w0 = elW 1 ∧ 2 < ws.length := fun h => by
    subst hq
    by_cases e : w0 = elW 1
    · rw [decide_eq_true e, cond_true] at h
      have := of_decide_eq_true h
      exact ⟨e, by omega⟩
    · rw [decide_eq_false e] at h; cases h
  have hcond : (bif q then (if 0 ≤ (2 : Int) ∧ (2 : Int) ≤ (ws.length : Int) ∧ (ws.length : Int) ≤ (ws.length : Int) then Mv.bnd (some c) (fun r => some (⟨1, r.kind, r.ask.kind, r.ask.key, r.ask.val, r.ask.range.lo, r.ask.range.hi, r.ask.most, r.ask.back⟩ : Xi_TextStep_5)) else none) else some (⟨j, 0, 0, ⟨#[]⟩, ⟨#[]⟩, ⟨#[]⟩, ⟨#[]⟩, 0, false⟩ : Xi_TextStep_5)) =
      some ((fun r : Call => (⟨bif q then 1 else j, r.kind, r.ask.kind, r.ask.key, r.ask.val, r.ask.range.lo, r.ask.range.hi, r.ask.most, r.ask.back⟩ : Xi_TextStep_5)) (bif q then c else call0)) := by
    cases q with
    | false => rfl
    | true =>
      rw [cond_true, if_pos (by have := (hq2 rfl).2; omega)]
      rfl
  rw [hcond]
  simp only [W.D, i_loopKeep ws (by omega)]
  have hx : ∀ (b : Int) (keep : List Int), b = (bif (bif (bif q then 1 else j) == 7 then decide ((ws.length : Int) > 2) else false) then numAt ws 2 else 0) → keep = (bif (bif (bif q then 1 else j) == 7 then decide ((ws.length : Int) > 2) else false) then numsOf3 ws else []) → ∃ x, some (bif (bif p.toList == (⟨#[]⟩ : ByteArray).toList then true else !((stS ⟨bif q then 1 else j, numAt ws 1, b, keep, bif q then c else call0⟩).toList == p.toList)) then (step0, false) else ((⟨bif q then 1 else j, numAt ws 1, b, keep, bif q then c else call0⟩ : Step), true)) = some (gives14 p x) ∧ x.keep.length ≤ 1048576 ∧ Reads p x := fun b keep hb hk => by
    refine ⟨_, rfl, ?_, fun y hy hne' => ?_⟩
    · simp only
      rw [hk]
      cases (bif (bif q then 1 else j) == 7 then decide ((ws.length : Int) > 2) else false) with
      | true => exact numsOf3_len ws (by omega)
      | false => exact Nat.zero_le _
    · rcases hcase y hy hne' with ⟨e, e1, e2, e3⟩ | ⟨e, e3⟩ | ⟨e, e1, e2, e4, e3⟩ | ⟨e1, e2, e5, e7, e, e4, e3⟩
      · have hw : w0 = elW 1 := by rw [e3] at hw0; exact (Option.some.inj hw0).symm
        have hlen := callW_pos e1
        have h2 : (ws.length : Int) > 2 := by rw [e3]; simp only [List.length_cons]; omega
        have hq1 : q = true := by rw [← hq, decide_eq_true hw, decide_eq_true h2]; rfl
        have hc1 : c = y.call := by
          have : ws.drop 2 = callW y.call := by rw [e3]; rfl
          rw [this, i_textCall_q e1] at hc
          exact (Option.some.inj hc).symm
        have hn : numAt ws 1 = y.a := by rw [e3]; show (textNum (numText y.a)).1 = y.a; rw [textNum_num e2]
        rw [hb, hk, hq1, hn, hc1]
        exact e.symm
      · have hw : w0 = elW 5 := by rw [e3] at hw0; exact (Option.some.inj hw0).symm
        have hj1 : j = 5 := gj 5 (by decide) (by decide) hw.symm
        have hq1 : q = false := by
          cases q with
          | false => rfl
          | true => have := elW_inj (by decide) (by decide) (hw.symm.trans (hq2 rfl).1); omega
        have hn : numAt ws 1 = 0 := by rw [e3]; rfl
        rw [hb, hk, hq1, hj1, hn]
        exact e.symm
      · have hw : w0 = elW 7 := by rw [e3] at hw0; exact (Option.some.inj hw0).symm
        have hj1 : j = 7 := gj 7 (by decide) (by decide) hw.symm
        have hq1 : q = false := by
          cases q with
          | false => rfl
          | true => have := elW_inj (by decide) (by decide) (hw.symm.trans (hq2 rfl).1); omega
        have h2 : (ws.length : Int) > 2 := by rw [e3]; simp only [List.length_cons]; omega
        have hn : numAt ws 1 = y.a := by rw [e3]; show (textNum (numText y.a)).1 = y.a; rw [textNum_num e1]
        have hn2 : numAt ws 2 = y.b := by rw [e3]; show (textNum (numText y.b)).1 = y.b; rw [textNum_num e2]
        have hn3 : numsOf3 ws = y.keep := by rw [numsOf3, e3]; exact nums_of _ e4
        rw [hb, hk, hq1, hj1, hn, hn2, hn3, decide_eq_true h2]
        exact e.symm
      · have hw : w0 = elW y.kind := by rw [e3] at hw0; exact (Option.some.inj hw0).symm
        have hj1 : j = y.kind := gj y.kind (by omega) e2 hw.symm
        have hq1 : q = false := by
          cases q with
          | false => rfl
          | true => have := elW_inj (by omega) (by decide) (hw.symm.trans (hq2 rfl).1); omega
        have hn : numAt ws 1 = y.a := by rw [e3]; show (textNum (numText y.a)).1 = y.a; rw [textNum_num e4]
        have hk7 : (j == 7) = false := by rw [beq_eq_false_iff_ne]; omega
        rw [hb, hk, hq1, cond_false, hk7, hn, hj1]
        exact e.symm
  cases h7 : (bif (bif q then 1 else j) == 7 then decide ((ws.length : Int) > 2) else false) with
  | true =>
    rw [cond_true]
    have h2 : 2 < ws.length := by
      cases h8 : ((bif q then 1 else j) == 7) with
      | true => rw [h8, cond_true] at h7; have := of_decide_eq_true h7; omega
      | false => rw [h8] at h7; cases h7
    have hn2 : (textNum ws[2]).1 = numAt ws 2 := by unfold numAt; rw [List.getElem?_eq_getElem h2]
    rw [show getI ws 2 = some ws[2] from getI_at (k := 2) (List.getElem?_eq_getElem h2)]
    simp only [W.D, hn2]
    rw [if_pos (by omega)]
    simp only [W.D]
    rw [show i_StepText _ = some (stI ⟨bif q then 1 else j, numAt ws 1, numAt ws 2, numsOf3 ws, bif q then c else call0⟩) from i_StepText_eq _ (numsOf3_len ws (by omega)), stI_eq]
    simp only [W.D]
    exact hx _ _ (by rw [h7]; rfl) (by rw [h7]; rfl)
  | false =>
    rw [cond_false]
    simp only [W.D]
    rw [show i_StepText _ = some (stI ⟨bif q then 1 else j, numAt ws 1, 0, [], bif q then c else call0⟩) from i_StepText_eq _ (Nat.zero_le _), stI_eq]
    simp only [W.D]
    exact hx _ _ (by rw [h7]; rfl) (by rw [h7]; rfl)
/-- BOTH READ A STEP ALIKE. -/
theorem textStep_eq (p : ByteArray) (hp : p.size ≤ 1048576) : ∃ r, s_TextStep p = some r ∧ i_TextStep p = some r ∧ r.1.keep.length ≤ 1048576 := by
  obtain ⟨x, h1, h2, h3⟩ := s_TextStep_ex p hp
  obtain ⟨y, g1, g2, g3⟩ := i_TextStep_ex p hp
  have key : gives14 p x = gives14 p y := by
    unfold gives14
    simp only [weq]
    by_cases he : p = ⟨#[]⟩
    · rw [decide_eq_true he]; rfl
    · rw [decide_eq_false he]
      by_cases hx : stS x = p
      · have := g3 x hx he
        rw [this]
      · by_cases hy : stS y = p
        · have := h3 y hy he
          rw [this]
        · rw [decide_eq_false hx, decide_eq_false hy]
          rfl
  refine ⟨_, h1, by rw [key]; exact g1, ?_⟩
  unfold gives14
  cases (bif p.toList == (⟨#[]⟩ : ByteArray).toList then true else !((stS x).toList == p.toList)) with
  | true => exact Nat.zero_le _
  | false => exact h2
end Go.Proofs.YtagoajkiccgmjaaDoor
namespace Go.Proofs.YtagoajkiccgmjaaDoor
open Go.Mv Go.RowKit

/-! ### What the law asks of the answer -/
theorem w_eqIntS_self (l : List Int) (hl : l.length ≤ 1048576) : w_eqIntS l l = some true := by
  have h := loop_run' (f := fun s => (Bw_eqIntS_1 l l s).den) (fun k : Nat => (k : Int)) l.length (s0 := 0) (r := (.inl () : Unit ⊕ Bool)) rfl (fun k hk => by
    obtain ⟨x, hx, _⟩ := getI_drop hk
    simp only [Bw_eqIntS_1, W.D]
    rw [decide_eq_true (by omega : (k : Int) < (l.length : Int)), cond_true, hx]
    simp only [W.D]
    rw [show (x != x) = false by simp, cond_false, wrapL _ (by omega) (by omega)]
    rfl) (by
    simp only [Bw_eqIntS_1, W.D]
    rw [decide_eq_false (by omega), cond_false])
  simp only [w_eqIntS, ww_eqIntS, W.D]
  rw [h, show (((l.length : Nat) : Int) != ((l.length : Nat) : Int)) = false by simp]
  rfl
theorem w_eqStep_self (p : Step) (hl : p.keep.length ≤ 1048576) : w_eqStep p p = some true := by
  have h1 : w_eqCall p.call p.call = some true := by
    have h2 : w_eqAsk p.call.ask p.call.ask = some true := by
      have h3 : w_eqRange p.call.ask.range p.call.ask.range = some true := by
        simp only [w_eqRange, ww_eqRange, W.D]
        simp
      simp only [w_eqAsk, ww_eqAsk, W.D, h3]
      simp
    simp only [w_eqCall, ww_eqCall, W.D, h2]
    simp
  simp only [w_eqStep, ww_eqStep, W.D, h1, w_eqIntS_self p.keep hl]
  simp
def markL (k0 : Int) (n : Nat) : List Int := (List.range n).map fun (i : Nat) => k0 + (i : Int)
theorem markL_len (k0 : Int) (n : Nat) : (markL k0 n).length = n := by simp [markL]
theorem markL_succ (k0 : Int) (n : Nat) : markL k0 (n + 1) = markL k0 n ++ [k0 + (n : Int)] := by simp [markL, List.range_succ]
theorem markL_get {k0 : Int} {n i : Nat} (h : i < n) : (markL k0 n)[i]? = some (k0 + (i : Int)) := by
  simp only [markL, List.getElem?_map, List.getElem?_range h, Option.map_some]
theorem w_markIntS_eq (l : List Int) (k0 : Int) (h0 : 0 ≤ k0) (h1 : k0 + l.length < 4611686018427387904) : w_markIntS l k0 = some (markL k0 l.length, k0 + (l.length : Int)) := by
  have h := loop_run' (f := fun s => (Bw_markIntS_1 s).den) (fun k : Nat => (⟨k0 + (k : Int), (k : Int), markL k0 k ++ l.drop k⟩ : Sw_markIntS_1)) l.length (s0 := ⟨k0, 0, l⟩) (r := (⟨k0 + (l.length : Int), markL k0 l.length⟩ : Xw_markIntS_1)) (by simp [markL]) (fun k hk => by
    obtain ⟨x, hx, hd⟩ := getI_drop hk
    have hlen : (markL k0 k ++ l.drop k).length = l.length := by rw [List.length_append, markL_len, List.length_drop]; omega
    have hget : getI (markL k0 k ++ l.drop k) (k : Int) = some x := by
      rw [getI_nat, List.getElem?_append_right (by rw [markL_len]; exact Nat.le_refl _), markL_len, hd]
      simp
    simp only [Bw_markIntS_1, W.D, hlen]
    rw [decide_eq_true (by omega : (k : Int) < (l.length : Int)), cond_true, hget]
    simp only [W.D, Int.toNat_natCast]
    rw [wrapL _ (by omega) (by omega), wrapL _ (by omega) (by omega)]
    have hset : (markL k0 k ++ l.drop k).set k (k0 + (k : Int)) = markL k0 (k + 1) ++ l.drop (k + 1) := by
      rw [hd, markL_succ, List.set_append_right _ _ (by rw [markL_len]; exact Nat.le_refl _), markL_len]
      simp
    rw [hset]
    simp only [Int.natCast_add, Int.natCast_one, Int.add_assoc]) (by
    have hlen : (markL k0 l.length ++ l.drop l.length).length = l.length := by rw [List.length_append, markL_len, List.length_drop]; omega
    simp only [Bw_markIntS_1, W.D, hlen]
    rw [decide_eq_false (by omega), cond_false]
    simp)
  simp only [w_markIntS, ww_markIntS, W.D]
  rw [h]
  rfl
theorem w_heldIntS_eq (n : Nat) (k0 : Int) (h0 : 0 ≤ k0) (h1 : k0 + (n : Int) < 4611686018427387904) : w_heldIntS (markL k0 n) k0 = some (k0 + (n : Int)) := by
  have h := loop_run' (f := fun s => (Bw_heldIntS_1 (markL k0 n) s).den) (fun k : Nat => (⟨k0 + (k : Int), (k : Int)⟩ : Sw_heldIntS_1)) n (s0 := ⟨k0, 0⟩) (r := (.inl (k0 + (n : Int)) : Int ⊕ Int)) (by simp) (fun k hk => by
    simp only [Bw_heldIntS_1, W.D, markL_len]
    rw [decide_eq_true (by omega : (k : Int) < (n : Int)), cond_true, getI_nat, markL_get hk]
    simp only [W.D]
    rw [show ((k0 + (k : Int)) != (k0 + (k : Int))) = false by simp, cond_false, wrapL _ (by omega) (by omega), wrapL _ (by omega) (by omega)]
    simp only [Int.natCast_add, Int.natCast_one, Int.add_assoc]) (by
    simp only [Bw_heldIntS_1, W.D, markL_len]
    rw [decide_eq_false (by omega), cond_false])
  simp only [w_heldIntS, ww_heldIntS, W.D]
  rw [h]
  rfl
end Go.Proofs.YtagoajkiccgmjaaDoor
namespace Go.Proofs.YtagoajkiccgmjaaDoor
open Go.Mv Go.RowKit

/-! ### A script read -/
noncomputable def linesB (p : ByteArray) : List ByteArray := bif ((ptsB 10 p).getLastD ⟨#[]⟩).toList == (⟨#[]⟩ : ByteArray).toList then (ptsB 10 p).take ((ptsB 10 p).length - 1) else ptsB 10 p
theorem getI_last {ws : List ByteArray} (h : ws ≠ []) (hl : ws.length ≤ 1048577) : getI ws (IntKind.wrap .i64 ((ws.length : Int) - 1)) = some (ws.getLastD ⟨#[]⟩) := by
  have hp : 0 < ws.length := List.length_pos_iff.2 h
  rw [wrapL _ (by omega) (by omega), show (ws.length : Int) - 1 = ((ws.length - 1 : Nat) : Int) by omega, getI_nat]
  rw [List.getLastD_eq_getLast?, List.getLast?_eq_getElem?, List.getElem?_eq_getElem (by omega)]
  rfl
theorem s_l14Lines_eq (p : ByteArray) (hp : p.size ≤ 8000) : s_l14Lines p = some (linesB p) := by
  have h := s_l07Parts_eq 10 p (by omega)
  rw [show (((10 : UInt8).toNat : Nat) : Int) = 10 from rfl] at h
  have hl := ptsB_len 10 p
  have hne := ptsB_ne 10 p
  simp only [s_l14Lines, ws_l14Lines, W.D, h]
  unfold linesB
  generalize ptsB 10 p = ws at *
  have hpos : 0 < ws.length := List.length_pos_iff.2 hne
  rw [getI_last hne (by omega)]
  simp only [W.D]
  cases ((ws.getLastD ⟨#[]⟩).toList == (⟨#[]⟩ : ByteArray).toList) with
  | false => rfl
  | true =>
    rw [cond_true, cond_true, wrapL _ (by omega) (by omega), if_pos (by omega)]
    simp only [W.D]
    rw [show ((ws.length : Int) - 1).toNat = ws.length - 1 by omega, List.drop_zero]
theorem i_linesOf_eq (p : ByteArray) (hp : p.size ≤ 8000) : i_linesOf p = some (linesB p) := by
  have h := st_Split_eq 10 p (by omega)
  have hl := ptsB_len 10 p
  have hne := ptsB_ne 10 p
  simp only [i_linesOf, wi_linesOf, W.D, h]
  unfold linesB
  generalize ptsB 10 p = ws at *
  have hpos : 0 < ws.length := List.length_pos_iff.2 hne
  rw [getI_last hne (by omega)]
  simp only [W.D]
  cases ((ws.getLastD ⟨#[]⟩).toList == (⟨#[]⟩ : ByteArray).toList) with
  | false => rfl
  | true =>
    rw [cond_true, cond_true, wrapL _ (by omega) (by omega), if_pos (by omega)]
    simp only [W.D]
    rw [show ((ws.length : Int) - 1).toNat = ws.length - 1 by omega, List.drop_zero]
theorem linesB_mem {p w : ByteArray} (h : w ∈ linesB p) : w.size ≤ p.size := by
  unfold linesB at h
  cases hb : (((ptsB 10 p).getLastD ⟨#[]⟩).toList == (⟨#[]⟩ : ByteArray).toList) with
  | false => rw [hb] at h; exact ptsB_mem h
  | true => rw [hb] at h; exact ptsB_mem (List.mem_of_mem_take h)
theorem linesB_len (p : ByteArray) : (linesB p).length ≤ p.size + 1 := by
  have hl := ptsB_len 10 p
  unfold linesB
  cases (((ptsB 10 p).getLastD ⟨#[]⟩).toList == (⟨#[]⟩ : ByteArray).toList) with
  | false => exact hl
  | true => rw [cond_true, List.length_take]; omega
noncomputable def quiet (w : ByteArray) : Bool := bif w.toList == (⟨#[]⟩ : ByteArray).toList then true else byteAt w 0 == 35
theorem size_pos_of {w : ByteArray} (h : (w.toList == (⟨#[]⟩ : ByteArray).toList) = false) : 0 < w.size := by
  have := isE_size w
  unfold isE at this
  rw [h] at this
  have := of_decide_eq_false this.symm
  omega
theorem s_quiet_eq (w : ByteArray) : s_l14Quiet w = some (quiet w) := by
  simp only [s_l14Quiet, ws_l14Quiet, W.D, quiet]
  cases h : (w.toList == (⟨#[]⟩ : ByteArray).toList) with
  | true => rfl
  | false =>
    have := size_pos_of h
    simp only [cond_false]
    rw [if_pos (by omega)]
    rfl
theorem i_says_eq (w : ByteArray) : i_says w = some (!quiet w) := by
  simp only [i_says, wi_says, W.D, quiet]
  cases h : (w.toList == (⟨#[]⟩ : ByteArray).toList) with
  | true => rfl
  | false =>
    have := size_pos_of h
    simp only [Bool.not_false, cond_true, cond_false]
    rw [if_pos (by omega)]
    rfl
/-- What a step read is, or none. -/
noncomputable def stepR (w : ByteArray) : Step × Bool := (s_TextStep w).getD (step0, false)
theorem stepR_eq {w : ByteArray} (h : w.size ≤ 1048576) : s_TextStep w = some (stepR w) ∧ i_TextStep w = some (stepR w) ∧ (stepR w).1.keep.length ≤ 1048576 := by
  obtain ⟨r, h1, h2, h3⟩ := textStep_eq w h
  have e : stepR w = r := by rw [stepR, h1]; rfl
  rw [e]
  exact ⟨h1, h2, h3⟩
/-- The rest of the lines read: what is there goes on, or the number of the line that is wrong. -/
noncomputable def readL : List ByteArray → Nat → List Step → List Step ⊕ (List Step × Int)
  | [], _, out => .inl out
  | w :: ws, k, out => bif quiet w then readL ws (k + 1) out else bif (bif !(stepR w).2 then true else ((out.length : Int) == 300)) then .inr ([], (k : Int) + 1) else readL ws (k + 1) (out ++ [(stepR w).1])
theorem readL_cons (w : ByteArray) (ws : List ByteArray) (k : Nat) (out : List Step) : readL (w :: ws) k out = bif quiet w then readL ws (k + 1) out else bif (bif !(stepR w).2 then true else ((out.length : Int) == 300)) then .inr ([], (k : Int) + 1) else readL ws (k + 1) (out ++ [(stepR w).1]) := by rw [readL]
def OkS (l : List Step) : Prop := l.length ≤ 300 ∧ ∀ x ∈ l, x.keep.length ≤ 1048576
theorem readL_ok : ∀ (ws : List ByteArray) (k : Nat) (out : List Step), OkS out → (∀ w ∈ ws, w.size ≤ 1048576) → match readL ws k out with
    | .inl l => OkS l
    | .inr r => OkS r.1
  | [], k, out, h, _ => h
  | w :: ws, k, out, h, hw => by
    rw [readL_cons]
    cases quiet w with
    | true => exact readL_ok ws (k + 1) out h fun v hv => hw v (by simp [hv])
    | false =>
      rw [cond_false]
      cases hb : (bif !(stepR w).2 then true else ((out.length : Int) == 300)) with
      | true => exact ⟨Nat.zero_le _, fun x hx => by cases hx⟩
      | false =>
        have h300 : out.length ≠ 300 := by
          cases h2 : (stepR w).2 with
          | false => rw [h2] at hb; cases hb
          | true =>
            rw [h2] at hb
            have := beq_eq_false_iff_ne.1 (show ((out.length : Int) == 300) = false from hb)
            omega
        refine readL_ok ws (k + 1) _ ⟨?_, fun x hx => ?_⟩ fun v hv => hw v (by simp [hv])
        · have := h.1; rw [List.length_append, List.length_singleton]; omega
        · rw [List.mem_append, List.mem_singleton] at hx
          rcases hx with hx | rfl
          · exact h.2 x hx
          · exact (stepR_eq (hw w (by simp))).2.2
theorem s_loopR (ws : List ByteArray) (hl : ws.length ≤ 1048577) (hw : ∀ w ∈ ws, w.size ≤ 1048576) : loopT (fun s => (Bs_ReadScript_1 ws s).den) ⟨[], 0⟩ = some (readL ws 0 []) := by
  refine (loopT_val (fun s : Ss_ReadScript_1 => some (readL (ws.drop s.v16.toNat) s.v16.toNat s.v4)) (fun s => ∃ k : Nat, s.v16 = k ∧ k ≤ ws.length ∧ s.v4.length ≤ 300) (fun s => ws.length - s.v16.toNat) (fun s hs => ?_) ⟨[], 0⟩ ⟨0, rfl, Nat.zero_le _, by simp⟩).trans (by simp)
  obtain ⟨out, v16⟩ := s
  obtain ⟨k, hk, hkl, ho⟩ := hs
  simp only at hk ho
  subst hk
  simp only [Bs_ReadScript_1, W.D, s_quiet_eq, Int.toNat_natCast]
  by_cases h : k < ws.length
  · obtain ⟨w, hx, hd⟩ := getI_drop h
    have hmem : w ∈ ws := by
      have : w ∈ ws.drop k := by rw [hd]; simp
      exact List.mem_of_mem_drop this
    have hr := stepR_eq (hw w hmem)
    rw [decide_eq_true (by omega : (k : Int) < (ws.length : Int)), cond_true, hx, hd]
    simp only [W.D, hr.1]
    rw [readL_cons]
    have ek : IntKind.wrap .i64 ((k : Int) + 1) = ((k + 1 : Nat) : Int) := by rw [wrapL _ (by omega) (by omega)]; simp
    rw [ek]
    cases hq : quiet w with
    | true =>
      right
      simp only [cond_true, bndS_inl]
      exact ⟨_, rfl, ⟨k + 1, rfl, by omega, ho⟩, by simp only [Int.toNat_natCast]; omega, by simp only [Int.toNat_natCast]⟩
    | false =>
      simp only [cond_false]
      cases hb : (bif !(stepR w).2 then true else ((out.length : Int) == 300)) with
      | true =>
        left
        simp only [cond_true, bndS_inr]
        exact ⟨_, rfl, by simp⟩
      | false =>
        right
        have h300 : out.length ≠ 300 := by
          cases h2 : (stepR w).2 with
          | false => rw [h2] at hb; cases hb
          | true =>
            rw [h2] at hb
            have := beq_eq_false_iff_ne.1 (show ((out.length : Int) == 300) = false from hb)
            omega
        simp only [cond_false]
        rw [if_pos (by omega)]
        simp only [bndS_inl]
        exact ⟨_, rfl, ⟨k + 1, rfl, by omega, by simp only [List.length_append, List.length_singleton]; omega⟩, by simp only [Int.toNat_natCast]; omega, by simp only [Int.toNat_natCast]⟩
  · left
    rw [decide_eq_false (by omega), cond_false, List.drop_eq_nil_of_le (by omega)]
    exact ⟨_, rfl, rfl⟩
theorem i_loopR (ws : List ByteArray) (hl : ws.length ≤ 1048577) (hw : ∀ w ∈ ws, w.size ≤ 1048576) : loopT (fun s => (Bi_readLines_1 ws (-1) s).den) ⟨[], 0⟩ = some (readL ws 0 []) := by
  refine (loopT_val (fun s : Si_readLines_1 => some (readL (ws.drop s.v14.toNat) s.v14.toNat s.v6)) (fun s => ∃ k : Nat, s.v14 = k ∧ k ≤ ws.length ∧ s.v6.length ≤ 300) (fun s => ws.length - s.v14.toNat) (fun s hs => ?_) ⟨[], 0⟩ ⟨0, rfl, Nat.zero_le _, by simp⟩).trans (by simp)
  obtain ⟨out, v14⟩ := s
  obtain ⟨k, hk, hkl, ho⟩ := hs
  simp only at hk ho
  subst hk
  simp only [Bi_readLines_1, W.D, i_says_eq, Int.toNat_natCast]
  by_cases h : k < ws.length
  · obtain ⟨w, hx, hd⟩ := getI_drop h
    have hmem : w ∈ ws := by
      have : w ∈ ws.drop k := by rw [hd]; simp
      exact List.mem_of_mem_drop this
    have hr := stepR_eq (hw w hmem)
    rw [decide_eq_true (by omega : (k : Int) < (ws.length : Int)), cond_true, hx, hd]
    simp only [W.D, hr.2.1]
    rw [show ((k : Int) == -1) = false by rw [beq_eq_false_iff_ne]; omega]
    rw [readL_cons]
    have ek : IntKind.wrap .i64 ((k : Int) + 1) = ((k + 1 : Nat) : Int) := by rw [wrapL _ (by omega) (by omega)]; simp
    rw [ek]
    cases hq : quiet w with
    | true =>
      right
      simp only [cond_true, cond_false, Bool.not_true, Bool.not_false, bndS_inl]
      exact ⟨_, rfl, ⟨k + 1, rfl, by omega, ho⟩, by simp only [Int.toNat_natCast]; omega, by simp only [Int.toNat_natCast]⟩
    | false =>
      simp only [cond_false, Bool.not_true, Bool.not_false]
      cases hb : (bif !(stepR w).2 then true else ((out.length : Int) == 300)) with
      | true =>
        left
        simp only [cond_true, bndS_inr]
        exact ⟨_, rfl, by simp⟩
      | false =>
        right
        have h300 : out.length ≠ 300 := by
          cases h2 : (stepR w).2 with
          | false => rw [h2] at hb; cases hb
          | true =>
            rw [h2] at hb
            have := beq_eq_false_iff_ne.1 (show ((out.length : Int) == 300) = false from hb)
            omega
        simp only [cond_false]
        rw [if_pos (by omega)]
        simp only [bndS_inl]
        exact ⟨_, rfl, ⟨k + 1, rfl, by omega, by simp only [List.length_append, List.length_singleton]; omega⟩, by simp only [Int.toNat_natCast]; omega, by simp only [Int.toNat_natCast]⟩
  · left
    rw [decide_eq_false (by omega), cond_false, List.drop_eq_nil_of_le (by omega)]
    exact ⟨_, rfl, rfl⟩
/-- BOTH READ A SCRIPT ALIKE. -/
theorem readScript_eq (p : ByteArray) : ∃ r, s_ReadScript p = some r ∧ i_ReadScript p = some r ∧ OkS r.1 := by
  simp only [s_ReadScript, ws_ReadScript, i_ReadScript, wi_ReadScript, i_readLines, wi_readLines, W.D]
  by_cases hp : (p.size : Int) > 8000
  · rw [decide_eq_true hp]
    exact ⟨_, rfl, rfl, Nat.zero_le _, fun x hx => by cases hx⟩
  · rw [decide_eq_false hp]
    simp only [cond_false]
    have hl := linesB_len p
    have hm : ∀ w ∈ linesB p, w.size ≤ 1048576 := fun w hw => by have := linesB_mem hw; omega
    rw [s_l14Lines_eq p (by omega), i_linesOf_eq p (by omega)]
    simp only [W.D]
    rw [s_loopR _ (by omega) hm, i_loopR _ (by omega) hm]
    have hok := readL_ok (linesB p) 0 [] ⟨Nat.zero_le _, fun x hx => by cases hx⟩ hm
    cases hr : readL (linesB p) 0 [] with
    | inl l => rw [hr] at hok; exact ⟨_, rfl, rfl, hok⟩
    | inr r => rw [hr] at hok; exact ⟨_, rfl, rfl, hok⟩
end Go.Proofs.YtagoajkiccgmjaaDoor
namespace Go.Proofs.YtagoajkiccgmjaaDoor
open Go.Mv Go.RowKit

/-! ### What the law asks of the answer -/
theorem byteB_one (n : Int) : (byteB n).size = 1 := by simp [byteB, ByteArray.size]
theorem markText_some (k : Int) (h : k < 9223372036854775808) : ∃ t, w_markText k = some t := by
  simp only [w_markText, ww_markText, W.D]
  by_cases h0 : k ≤ 0
  · rw [decide_eq_true h0]; exact ⟨_, rfl⟩
  rw [decide_eq_false h0]
  simp only [cond_false]
  obtain ⟨t, h1, h2⟩ := loopT_ex (f := fun s => (Bw_markText_1 s).den) (fun t => t.size ≤ 63) (fun s => 0 ≤ s.v0 ∧ s.v0 * 2 ^ s.v3.size < 9223372036854775808 ∧ s.v3.size ≤ 63) (fun s => s.v0.toNat) (fun s ⟨g0, g1, g2⟩ => by
    obtain ⟨m, o⟩ := s
    simp only at g0 g1 g2
    simp only [Bw_markText_1, W.D]
    by_cases hm : m > 0
    · rw [decide_eq_true hm]
      simp only [cond_true]
      have hpos : (0 : Int) < 2 ^ o.size := Int.pow_pos (by decide)
      have hmlt : m < 9223372036854775808 := by
        have : m * 1 ≤ m * 2 ^ o.size := Int.mul_le_mul_of_nonneg_left (by omega) (by omega)
        omega
      have hs : o.size < 63 := by
        rcases Nat.lt_or_ge o.size 63 with h | h
        · exact h
        · exfalso
          have e : o.size = 63 := by omega
          rw [e] at g1
          have : (1 : Int) * 2 ^ 63 ≤ m * 2 ^ 63 := Int.mul_le_mul_of_nonneg_right (by omega) (by decide)
          have : (2 : Int) ^ 63 = 9223372036854775808 := by decide
          omega
      rw [if_pos (by rw [byteB_one]; omega)]
      have hd : Int.tdiv m 10 = m / 10 := Int.tdiv_eq_ediv_of_nonneg (by omega)
      have hz : IntKind.wrap .i64 (Int.tdiv m 10) = m / 10 := by rw [hd, wrapL _ (by omega) (by omega)]
      have hz2 : (byteB (IntKind.wrap .u8 (IntKind.wrap .i64 (48 + Int.tmod m 10))) ++ o).size = o.size + 1 := by rw [ByteArray.size_append, byteB_one, Nat.add_comm]
      refine .inr ⟨_, rfl, ⟨?_, ?_, ?_⟩, ?_⟩ <;> dsimp only <;> simp only [hz, hz2]
      · omega
      · rw [Int.pow_succ]
        have : m / 10 * (2 ^ o.size * 2) ≤ m * 2 ^ o.size := by
          have h5 : m / 10 * 2 ≤ m := by omega
          calc m / 10 * (2 ^ o.size * 2) = (m / 10 * 2) * 2 ^ o.size := by rw [Int.mul_comm (2 ^ o.size) 2, Int.mul_assoc]
            _ ≤ m * 2 ^ o.size := Int.mul_le_mul_of_nonneg_right h5 (by omega)
        omega
      · omega
      · omega
    · rw [decide_eq_false hm]
      exact .inl ⟨_, rfl, g2⟩) ⟨k, ⟨#[]⟩⟩ ⟨by dsimp only; omega, by simpa [ByteArray.size] using h, by simp [ByteArray.size]⟩
  rw [h1]
  simp only [W.D]
  rw [if_pos (by simp only [ByteArray.size, List.size_toArray, List.length_cons, List.length_nil] at h2 ⊢; omega)]
  exact ⟨_, rfl⟩
noncomputable def mt (k : Int) : ByteArray := (w_markText k).getD default
theorem mt_eq (k : Int) (h : k < 9223372036854775808) : w_markText k = some (mt k) := by
  obtain ⟨t, ht⟩ := markText_some k h
  unfold mt
  rw [ht]
  rfl

noncomputable def mstep (k : Int) (n : Nat) : Step := ⟨k, k + 1, k + 2, markL (k + 3) n, ⟨k + 3 + n, ⟨k + 3 + n + 1, mt (k + 3 + n + 2), mt (k + 3 + n + 3), ⟨mt (k + 3 + n + 4), mt (k + 3 + n + 5)⟩, k + 3 + n + 6, Int.tmod (k + 3 + n + 7) 3 == 0⟩⟩⟩
noncomputable def mkS : Int → List Nat → List Step
  | _, [] => []
  | k, n :: ns => mstep k n :: mkS (k + 11 + n) ns
def endS : Int → List Nat → Int
  | k, [] => k
  | k, n :: ns => endS (k + 11 + n) ns
theorem endS_ge : ∀ (ns : List Nat) (k : Int), k ≤ endS k ns
  | [], k => Int.le_refl _
  | n :: ns, k => by have := endS_ge ns (k + 11 + n); rw [endS]; omega
theorem endS_le : ∀ (ns : List Nat) (k : Int), (∀ n ∈ ns, n ≤ 1048576) → endS k ns ≤ k + 1048587 * (ns.length : Int)
  | [], k, _ => by simp [endS]
  | n :: ns, k, h => by
    have := endS_le ns (k + 11 + n) fun m hm => h m (by simp [hm])
    have := h n (by simp)
    rw [endS, List.length_cons]
    omega
theorem endS_len : ∀ (ns : List Nat) (k : Int), k + (ns.length : Int) ≤ endS k ns
  | [], k => by simp [endS]
  | n :: ns, k => by have := endS_len ns (k + 11 + n); rw [endS, List.length_cons]; omega
theorem mkS_len : ∀ (ns : List Nat) (k : Int), (mkS k ns).length = ns.length
  | [], _ => rfl
  | n :: ns, k => by rw [mkS, List.length_cons, List.length_cons, mkS_len ns]
theorem w_markStepS_eq (xs : List Step) (k : Int) (h0 : 0 ≤ k) (hE : endS k (xs.map fun x => x.keep.length) < 4611686018427387904) : w_markStepS xs k = some (mkS k (xs.map fun x => x.keep.length), endS k (xs.map fun x => x.keep.length)) := by
  have hxl := endS_len (xs.map fun x => x.keep.length) k
  rw [List.length_map] at hxl
  have h := loopT_val (f := fun s => (Bw_markStepS_1 s).den) (fun s : Sw_markStepS_1 => some (⟨endS s.v1 ((s.w0_0.drop s.v5.toNat).map fun x => x.keep.length), s.w0_0.take s.v5.toNat ++ mkS s.v1 ((s.w0_0.drop s.v5.toNat).map fun x => x.keep.length)⟩ : Xw_markStepS_1))
    (fun s => ∃ i : Nat, s.v5 = i ∧ i ≤ s.w0_0.length ∧ s.w0_0.length = xs.length ∧ 0 ≤ s.v1 ∧ endS s.v1 ((s.w0_0.drop i).map fun x => x.keep.length) < 4611686018427387904) (fun s => s.w0_0.length - s.v5.toNat) (fun s hs => by
      obtain ⟨v1, v5, l⟩ := s
      obtain ⟨i, hi, hil, hlx, hv, he⟩ := hs
      simp only at hi hil hlx hv he
      subst hi
      simp only [Bw_markStepS_1, W.D, Int.toNat_natCast]
      by_cases hlt : i < l.length
      · right
        obtain ⟨x, hx, hd⟩ := getI_drop hlt
        rw [hd, List.map_cons, endS] at he
        have hge := endS_ge ((l.drop (i + 1)).map fun x => x.keep.length) (v1 + 11 + (x.keep.length : Int))
        have hb : v1 + 11 + (x.keep.length : Int) < 4611686018427387904 := by omega
        rw [decide_eq_true (by omega : (i : Int) < (l.length : Int)), cond_true, hx]
        simp only [W.D]
        rw [wrapL (v1 + 1) (by omega) (by omega), wrapL (v1 + 1 + 1) (by omega) (by omega), wrapL (v1 + 1 + 1 + 1) (by omega) (by omega)]
        rw [show v1 + 1 + 1 + 1 = v1 + 3 by omega, show v1 + 1 + 1 = v1 + 2 by omega, w_markIntS_eq x.keep (v1 + 3) (by omega) (by omega)]
        simp only [W.D]
        rw [if_pos (markL_len _ _)]
        generalize hr : v1 + 3 + (x.keep.length : Int) = r at *
        have hr0 : 0 ≤ r ∧ r + 8 < 4611686018427387904 := by omega
        rw [wrapL (r + 1) (by omega) (by omega), wrapL (r + 1 + 1) (by omega) (by omega), show r + 1 + 1 = r + 2 by omega, mt_eq (r + 2) (by omega)]
        simp only [W.D]
        rw [wrapL (r + 2 + 1) (by omega) (by omega), show r + 2 + 1 = r + 3 by omega, mt_eq (r + 3) (by omega)]
        simp only [W.D]
        rw [wrapL (r + 3 + 1) (by omega) (by omega), show r + 3 + 1 = r + 4 by omega, mt_eq (r + 4) (by omega)]
        simp only [W.D]
        rw [wrapL (r + 4 + 1) (by omega) (by omega), show r + 4 + 1 = r + 5 by omega, mt_eq (r + 5) (by omega)]
        simp only [W.D]
        rw [wrapL (r + 5 + 1) (by omega) (by omega), show r + 5 + 1 = r + 6 by omega, wrapL (r + 6 + 1) (by omega) (by omega), show r + 6 + 1 = r + 7 by omega, wrapL (r + 7 + 1) (by omega) (by omega), show r + 7 + 1 = r + 8 by omega, wrapL ((i : Int) + 1) (by omega) (by omega)]
        have hm : (⟨v1, v1 + 1, v1 + 2, markL (v1 + 3) x.keep.length, ⟨r, ⟨r + 1, mt (r + 2), mt (r + 3), ⟨mt (r + 4), mt (r + 5)⟩, r + 6, Int.tmod (r + 7) 3 == 0⟩⟩⟩ : Step) = mstep v1 x.keep.length := by rw [mstep, hr]
        rw [hm]
        have e8 : r + 8 = v1 + 11 + (x.keep.length : Int) := by omega
        have hdrop : (l.set i (mstep v1 x.keep.length)).drop (i + 1) = l.drop (i + 1) := by rw [List.drop_set_of_lt (by omega)]
        have htake : (l.set i (mstep v1 x.keep.length)).take (i + 1) = l.take i ++ [mstep v1 x.keep.length] := by
          rw [List.take_add_one, List.take_set_of_le (Nat.le_refl _)]
          simp [hlt]
        have hti : ((i : Int) + 1).toNat = i + 1 := by omega
        refine ⟨_, rfl, ⟨i + 1, by simp, by simp only [List.length_set]; omega, by simp only [List.length_set]; exact hlx, by simp only; omega, ?_⟩, by simp only [List.length_set]; omega, ?_⟩
        · simp only
          rw [hdrop, e8]
          exact he
        · simp only
          rw [hti, hdrop, htake, hd, List.map_cons, endS, mkS, e8]
          simp only [List.append_assoc, List.singleton_append]
      · left
        have : i = l.length := by omega
        rw [decide_eq_false (by omega), cond_false, List.drop_eq_nil_of_le (by omega), List.take_of_length_le (by omega)]
        exact ⟨_, rfl, by simp [endS, mkS]⟩) ⟨k, 0, xs⟩ ⟨0, rfl, Nat.zero_le _, rfl, h0, hE⟩
  simp only [w_markStepS, ww_markStepS, W.D]
  rw [h]
  simp
theorem w_heldStepS_eq (ns : List Nat) (k : Int) (h0 : 0 ≤ k) (hE : endS k ns < 4611686018427387904) : w_heldStepS (mkS k ns) k = some (endS k ns) := by
  have h := loopT_val (f := fun s => (Bw_heldStepS_1 (mkS k ns) s).den) (fun s : Sw_heldStepS_1 => some (Sum.inl (endS k ns) : Int ⊕ Int))
    (fun s => ∃ (i : Nat) (ms : List Nat), s.v5 = i ∧ (mkS k ns).drop i = mkS s.v1 ms ∧ 0 ≤ s.v1 ∧ endS s.v1 ms = endS k ns ∧ i + ms.length = ns.length) (fun s => ns.length - s.v5.toNat) (fun s hs => by
      obtain ⟨v1, v5⟩ := s
      obtain ⟨i, ms, hi, hd, hv, he, hl⟩ := hs
      simp only at hi hd hv he
      subst hi
      simp only [Bw_heldStepS_1, W.D, mkS_len]
      have hns : (ns.length : Int) < 4611686018427387904 := by
        have := endS_len ns k
        omega
      cases ms with
      | nil =>
        left
        simp only [List.length_nil] at hl
        rw [decide_eq_false (by omega), cond_false]
        exact ⟨_, rfl, by rw [← he]; rfl⟩
      | cons n ms =>
        right
        simp only [List.length_cons] at hl
        rw [mkS] at hd
        have hget : getI (mkS k ns) (i : Int) = some (mstep v1 n) := by
          have hlt : i < (mkS k ns).length := by rw [mkS_len]; omega
          obtain ⟨x, hx, hx2⟩ := getI_drop hlt
          rw [hx2] at hd
          injection hd with e1 e2
          rw [hx, e1]
        have hd2 : (mkS k ns).drop (i + 1) = mkS (v1 + 11 + n) ms := by
          have := congrArg (List.drop 1) hd
          rw [List.drop_drop] at this
          exact this
        rw [endS] at he
        have hge := endS_ge ms (v1 + 11 + (n : Int))
        rw [decide_eq_true (by omega : (i : Int) < (ns.length : Int)), cond_true, hget]
        simp only [W.D]
        rw [wrapL (v1 + 1) (by omega) (by omega), wrapL (v1 + 1 + 1) (by omega) (by omega), wrapL (v1 + 1 + 1 + 1) (by omega) (by omega)]
        rw [show v1 + 1 + 1 + 1 = v1 + 3 by omega, show v1 + 1 + 1 = v1 + 2 by omega]
        rw [show (mstep v1 n).keep = markL (v1 + 3) n from rfl, w_heldIntS_eq n (v1 + 3) (by omega) (by omega)]
        simp only [W.D]
        have hmm : mstep v1 n = ⟨v1, v1 + 1, v1 + 2, markL (v1 + 3) n, ⟨v1 + 3 + n, ⟨v1 + 3 + n + 1, mt (v1 + 3 + n + 2), mt (v1 + 3 + n + 3), ⟨mt (v1 + 3 + n + 4), mt (v1 + 3 + n + 5)⟩, v1 + 3 + n + 6, Int.tmod (v1 + 3 + n + 7) 3 == 0⟩⟩⟩ := rfl
        rw [hmm]
        generalize hr : v1 + 3 + (n : Int) = r at *
        have hr0 : 0 ≤ r ∧ r + 8 < 4611686018427387904 := by omega
        rw [wrapL (r + 1) (by omega) (by omega), wrapL (r + 1 + 1) (by omega) (by omega), show r + 1 + 1 = r + 2 by omega, mt_eq (r + 2) (by omega)]
        simp only [W.D]
        rw [wrapL (r + 2 + 1) (by omega) (by omega), show r + 2 + 1 = r + 3 by omega, mt_eq (r + 3) (by omega)]
        simp only [W.D]
        rw [wrapL (r + 3 + 1) (by omega) (by omega), show r + 3 + 1 = r + 4 by omega, mt_eq (r + 4) (by omega)]
        simp only [W.D]
        rw [wrapL (r + 4 + 1) (by omega) (by omega), show r + 4 + 1 = r + 5 by omega, mt_eq (r + 5) (by omega)]
        simp only [W.D]
        rw [wrapL (r + 5 + 1) (by omega) (by omega), show r + 5 + 1 = r + 6 by omega, wrapL (r + 6 + 1) (by omega) (by omega), show r + 6 + 1 = r + 7 by omega, wrapL (r + 7 + 1) (by omega) (by omega), show r + 7 + 1 = r + 8 by omega, wrapL ((i : Int) + 1) (by omega) (by omega)]
        rw [decide_eq_false (by omega : ¬ r < 0)]
        simp only [bne_self_eq_false, beq_self_eq_true, Bool.not_true, cond_false]
        exact ⟨_, rfl, ⟨i + 1, ms, by simp, by rw [hd2]; simp only; congr 1; omega, by simp only; omega, by simp only; rw [← he]; congr 1; omega, by omega⟩, by simp only; omega, trivial⟩) ⟨k, 0⟩ ⟨0, ns, rfl, rfl, h0, rfl, by simp⟩
  simp only [w_heldStepS, ww_heldStepS, W.D]
  rw [h]
  rfl
theorem w_eqStepS_self (l : List Step) (h : OkS l) : w_eqStepS l l = some true := by
  have hl := h.1
  have h1 := loop_run' (f := fun s => (Bw_eqStepS_1 l l s).den) (fun k : Nat => (k : Int)) l.length (s0 := 0) (r := (.inl () : Unit ⊕ Bool)) rfl (fun k hk => by
    obtain ⟨x, hx, hd⟩ := getI_drop hk
    have hm : x ∈ l := by
      have : x ∈ l.drop k := by rw [hd]; simp
      exact List.mem_of_mem_drop this
    simp only [Bw_eqStepS_1, W.D]
    rw [decide_eq_true (by omega : (k : Int) < (l.length : Int)), cond_true, hx]
    simp only [W.D, w_eqStep_self x (h.2 x hm)]
    rw [wrapL _ (by omega) (by omega)]
    rfl) (by
    simp only [Bw_eqStepS_1, W.D]
    rw [decide_eq_false (by omega), cond_false])
  simp only [w_eqStepS, ww_eqStepS, W.D]
  rw [h1, show (((l.length : Nat) : Int) != ((l.length : Nat) : Int)) = false by simp]
  rfl
theorem law15 (p : ByteArray) : w_FnExactReadScript p = some true := by
  simp only [w_FnExactReadScript, ww_FnExactReadScript, W.D]
  by_cases hp : (p.size : Int) > 1048576
  · rw [decide_eq_true hp]; rfl
  · rw [decide_eq_false hp, cond_false]
    obtain ⟨r, h1, h2, h3⟩ := readScript_eq p
    rw [h1, h2]
    simp only [W.D, w_eqStepS_self r.1 h3]
    rw [show (r.2 != r.2) = false by simp]
    simp only [Bool.not_true, cond_false]
    have hle := endS_le (r.1.map fun x => x.keep.length) 1 fun n hn => by
      obtain ⟨x, hx, rfl⟩ := List.mem_map.1 hn
      exact h3.2 x hx
    have hge := endS_ge (r.1.map fun x => x.keep.length) 1
    have h300 := h3.1
    rw [List.length_map] at hle
    rw [w_markStepS_eq r.1 1 (by decide) (by omega)]
    simp only [W.D]
    rw [if_pos (by rw [mkS_len, List.length_map]), w_heldStepS_eq _ 1 (by decide) (by omega)]
    simp only [W.D]
    rw [decide_eq_false (by omega : ¬ endS 1 (r.1.map fun x => x.keep.length) < 0)]
    simp
theorem ok_ReadScript (p : ByteArray) : CallOK Tryd.prog 4 [sV p] (bV true) [] := k_w_FnExactReadScript p true (law15 p)
end Go.Proofs.YtagoajkiccgmjaaDoor
