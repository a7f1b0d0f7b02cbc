/- The given program's StepText returns what the reference's StepText returns, for every step (the statement FnExactStepTextSaid); no condition beside the statement's own. -/
import Derived.Shelf.Strings.OnBuilder
import Derived.Test.YtabgoibmnjikkaaMvIII
import Derived.Test.YtabgoibmnjikkaaProg
import Derived.Test.YtabgoibmnjikkaaStepTextPartA
import Derived.Test.YtabgoibmnjikkaaStepTextPartB
import Derived.Test.YtabgoibmnjikkaaStepTextPartC
import Derived.Test.YtabgoibmnjikkaaStepTextPartD
import Derived.Test.YtabgoibmnjikkaaRows
import Derived.WalkKit
import Derived.ProofKit
import Derived.OpenShut
import Derived.ShutString
import Derived.ChangeOld
import Derived.Below
import Derived.SizedLaws
set_option linter.unusedVariables false
set_option linter.unusedSimpArgs false
namespace Go.Proofs.Ytabgoibmnjikkaa
open Go.Mv Go.RowKit

theorem bytesLess_total : ∀ (x y : List UInt8), Op.bytesLess x y = !(Op.bytesLess y x || y == x)
  | [], [] => rfl
  | [], _ :: _ => by simp [Op.bytesLess]
  | _ :: _, [] => by simp [Op.bytesLess]
  | a :: x, b :: y => by
    have ih := bytesLess_total x y
    simp only [Op.bytesLess, List.cons_beq_cons]
    rw [ih]
    by_cases h : a = b
    · subst h
      simp
    · have h1 : (a == b) = false := by simp [h]
      have h2 : (b == a) = false := beq_eq_false_iff_ne.2 (Ne.symm h)
      rw [h1, h2]
      by_cases h3 : a < b
      · have h4 : ¬ b < a := fun h4 => absurd (UInt8.lt_trans h3 h4) (UInt8.lt_irrefl _)
        simp [h3, h4]
      · have h4 : b < a := by
          rcases UInt8.lt_or_lt_of_ne h with h5 | h5
          · exact absurd h5 h3
          · exact h5
        simp [h3, h4]
theorem rangeOk_eq (r : Range) : rangeOkI r = rangeOkS r := by
  unfold rangeOkI rangeOkS
  rw [bytesLess_total r.lo.toList r.hi.toList]
  by_cases h1 : (r.lo.size : Int) ≤ 17
  · have h2 : ¬ (r.lo.size : Int) > 17 := by omega
    by_cases h3 : (r.hi.size : Int) ≤ 17
    · have h4 : ¬ (r.hi.size : Int) > 17 := by omega
      simp [h1, h2, h3, h4]
    · have h4 : (r.hi.size : Int) > 17 := by omega
      simp [h1, h2, h3, h4]
  · have h2 : (r.lo.size : Int) > 17 := by omega
    simp [h1, h2]
theorem reachOk_eq (r : Range) : reachOkI r = reachOkS r := by rw [reachOkI, reachOkS, rangeOk_eq]
def isE (v : ByteArray) : Bool := v.toList == (⟨#[]⟩ : ByteArray).toList
theorem isE_size (v : ByteArray) : isE v = decide (v.size = 0) := by
  unfold isE
  rw [ByteArray.toList_eq, ByteArray.toList_eq]
  obtain ⟨⟨l⟩⟩ := v
  cases l <;> simp [ByteArray.size]
theorem uval_of {v : ByteArray} (h : isE v = true) : uvalOkS v = true := by
  rw [isE_size] at h
  have : v.size = 0 := of_decide_eq_true h
  unfold uvalOkS
  simp [this]
theorem askOk_eq (q : Ask) : askOkI q = askOkS q := by
  obtain ⟨kind, key, val, range, most, back⟩ := q
  unfold askOkI askOkS
  simp only [reachOk_eq, show ∀ k, userOkI k = userOkS k from fun k => rfl, show ∀ k, uvalOkI k = uvalOkS k from fun k => rfl, show ∀ v : ByteArray, (v.toList == (⟨#[]⟩ : ByteArray).toList) = isE v from fun v => rfl, within]
  have hu := @uval_of val
  by_cases h1 : kind = 1
  · subst h1
    cases hv : isE val
    · simp
    · rw [hu hv]
      cases userOkS key <;> cases isE range.lo <;> cases isE range.hi <;> cases (most == 0) <;> cases back <;> simp
  by_cases h2 : kind = 2
  · subst h2
    cases userOkS key <;> cases uvalOkS val <;> cases isE range.lo <;> cases isE range.hi <;> cases (most == 0) <;> cases back <;> simp
  by_cases h3 : kind = 3
  · subst h3
    cases hv : isE val
    · simp
    · rw [hu hv]
      cases userOkS key <;> cases isE range.lo <;> cases isE range.hi <;> cases (most == 0) <;> cases back <;> simp
  by_cases h4 : kind = 4
  · subst h4
    cases reachOkS range <;> cases isE key <;> cases isE val <;> cases decide (most ≥ 1) <;> cases decide (most ≤ 8) <;> simp
  · have e1 : (kind == 1) = false := by simp [h1]
    have e2 : (kind == 2) = false := by simp [h2]
    have e3 : (kind == 3) = false := by simp [h3]
    have e4 : (kind == 4) = false := by simp [h4]
    have e5 : decide (kind ≥ 1) = false ∨ decide (kind ≤ 3) = false := by
      by_cases h5 : kind ≥ 1
      · exact .inr (decide_eq_false (by omega))
      · exact .inl (decide_eq_false h5)
    rw [e1, e2, e3, e4]
    rcases e5 with e5 | e5 <;> rw [e5] <;> simp
theorem callOk_eq (c : CallR) : callOkI c = callOkS c := by
  unfold callOkI callOkS within
  rw [askOk_eq]
  cases decide (c.kind ≥ 1) <;> cases decide (c.kind ≤ 4) <;> rfl
theorem isE_app (a b : ByteArray) : isE (a ++ b) = (isE a && isE b) := by
  rw [isE_size, isE_size, isE_size, ByteArray.size_append]
  by_cases h1 : a.size = 0 <;> by_cases h2 : b.size = 0 <;> simp [h1, h2]
theorem isE_quote {s : ByteArray} (h : s.size ≤ 4096) : isE (quote s) = false := by
  rw [isE_size, quote, decide_eq_false (show ¬ (s.size : Int) > 4096 by omega), cond_false, ByteArray.size_append, byteB_size]
  exact decide_eq_false (by omega)
theorem isE_num (n : Int) : isE (numText n) = !(l01Num n) := by
  rw [isE_size, numText]
  cases h : l01Num n
  · rw [dif_neg (by simp)]; rfl
  · rw [dif_pos rfl]
    split
    · rfl
    · rw [ByteArray.size_append, byteB_size]
      exact decide_eq_false (by omega)
theorem askOk_sz {q : Ask} (h : askOkS q = true) : q.key.size ≤ 4096 ∧ q.val.size ≤ 4096 ∧ q.range.lo.size ≤ 4096 ∧ q.range.hi.size ≤ 4096 ∧ (q.kind = 1 ∨ q.kind = 2 ∨ q.kind = 3 ∨ l01Num q.most = true) := by
  obtain ⟨kind, key, val, range, most, back⟩ := q
  unfold askOkS at h
  simp only [show ∀ v : ByteArray, (v.toList == (⟨#[]⟩ : ByteArray).toList) = isE v from fun v => rfl, isE_size, userOkS, uvalOkS, reachOkS, rangeOkS] at h
  by_cases h4 : kind = 4
  · subst h4
    simp only [beq_self_eq_true, cond_true, Bool.cond_false_right, Bool.and_eq_true, decide_eq_true_eq] at h
    obtain ⟨a1, a2, ⟨a3, a4, a5⟩, a6, a7⟩ := h
    show key.size ≤ 4096 ∧ val.size ≤ 4096 ∧ range.lo.size ≤ 4096 ∧ range.hi.size ≤ 4096 ∧ _
    exact ⟨by omega, by omega, by omega, by omega, .inr (.inr (.inr ((l01_iff most).2 ⟨by omega, by omega⟩)))⟩
  · have e4 : (kind == 4) = false := by simp [h4]
    rw [e4, cond_false] at h
    cases hx : (bif (kind != 2) then (!(decide (val.size = 0))) else false)
    · rw [hx, cond_false] at h
      simp only [Bool.cond_false_right, Bool.and_eq_true, decide_eq_true_eq, Bool.and_true] at h
      obtain ⟨a1, a2, ⟨a3, a3'⟩, a4, ⟨a5, a6⟩, a7, a8⟩ := h
      show key.size ≤ 4096 ∧ val.size ≤ 4096 ∧ range.lo.size ≤ 4096 ∧ range.hi.size ≤ 4096 ∧ (kind = 1 ∨ kind = 2 ∨ kind = 3 ∨ l01Num most = true)
      exact ⟨by omega, by omega, by omega, by omega, by omega⟩
    · rw [hx, cond_true] at h
      cases h
theorem sp_lit : (⟨#[32]⟩ : ByteArray).size = 1 := rfl
theorem callText_ne {c : CallR} (h : callOkS c = true) : isE (callText c) = false := by
  rw [isE_size]
  refine decide_eq_false ?_
  unfold callText
  rw [h]
  cases (c.kind == 1) <;> cases (c.kind == 3) <;> cases (c.kind == 4) <;> cases (c.ask.kind == 1) <;> cases (c.ask.kind == 2) <;> cases (c.ask.kind == 3) <;>
    simp only [Bool.not_true, cond_true, cond_false, ByteArray.size_append, mv_size_mk, List.size_toArray, List.length_cons, List.length_nil] <;> omega
theorem callOk_kind {c : CallR} (h : callOkS c = true) : (c.kind = 1 ∨ c.kind = 3 ∨ c.kind = 4) ∨ (c.kind = 2 ∧ askOkS c.ask = true) := by
  unfold callOkS at h
  by_cases h2 : c.kind = 2
  · rw [show (c.kind == 2) = true by simp [h2], cond_true] at h
    exact .inr ⟨h2, h⟩
  · rw [show (c.kind == 2) = false by simp [h2], cond_false] at h
    simp only [Bool.cond_false_right, Bool.and_eq_true, decide_eq_true_eq] at h
    omega
theorem quote_ne {q : Ask} (h : askOkS q = true) : isE (quote q.key) = false ∧ isE (quote q.val) = false ∧ isE (quote q.range.lo) = false ∧ isE (quote q.range.hi) = false := by
  obtain ⟨h1, h2, h3, h4, _⟩ := askOk_sz h
  exact ⟨isE_quote h1, isE_quote h2, isE_quote h3, isE_quote h4⟩
theorem lit_get : (⟨#[103, 101, 116]⟩ : ByteArray) ++ (⟨#[32]⟩ : ByteArray) = (⟨#[103, 101, 116, 32]⟩ : ByteArray) := by apply ByteArray.ext; rfl
theorem lit_put : (⟨#[112, 117, 116]⟩ : ByteArray) ++ (⟨#[32]⟩ : ByteArray) = (⟨#[112, 117, 116, 32]⟩ : ByteArray) := by apply ByteArray.ext; rfl
theorem lit_del : (⟨#[100, 101, 108]⟩ : ByteArray) ++ (⟨#[32]⟩ : ByteArray) = (⟨#[100, 101, 108, 32]⟩ : ByteArray) := by apply ByteArray.ext; rfl
theorem lit_scan : (⟨#[115, 99, 97, 110]⟩ : ByteArray) ++ (⟨#[32]⟩ : ByteArray) = (⟨#[115, 99, 97, 110, 32]⟩ : ByteArray) := by apply ByteArray.ext; rfl
theorem lit_back : (⟨#[98, 97, 99, 107]⟩ : ByteArray) ++ (⟨#[32]⟩ : ByteArray) = (⟨#[98, 97, 99, 107, 32]⟩ : ByteArray) := by apply ByteArray.ext; rfl
/-- The words of a right call: none is empty, and joined they are its text. -/
theorem callWords_text {c : CallR} (h : callOkS c = true) : noEmpty (callWords c) = true ∧ joinB (callWords c) ⟨#[32]⟩ = callText c ∧ callWords c ≠ [] := by
  unfold callText
  rw [h]
  unfold callWords noEmpty
  simp only [show ∀ v : ByteArray, (v.toList == (⟨#[]⟩ : ByteArray).toList) = isE v from fun v => rfl, Bool.not_true, cond_false]
  have l : ∀ a : Array UInt8, 0 < a.size → isE ⟨a⟩ = false := fun a ha => by rw [isE_size]; exact decide_eq_false (by show ¬ a.size = 0; omega)
  rcases callOk_kind h with hk | ⟨hk, ha⟩
  · rcases hk with hk | hk | hk
    · rw [show (c.kind == 1) = true by simp [hk]]
      exact ⟨by simp only [cond_true, List.all_cons, List.all_nil, isE_size]; rfl, by rw [cond_true, cond_true, joinB_one], by simp⟩
    · rw [show (c.kind == 1) = false by simp [hk], show (c.kind == 3) = true by simp [hk]]
      exact ⟨by simp only [cond_true, cond_false, List.all_cons, List.all_nil, isE_size]; rfl, by rw [cond_false, cond_false, cond_true, cond_true, joinB_one], by simp⟩
    · rw [show (c.kind == 1) = false by simp [hk], show (c.kind == 3) = false by simp [hk], show (c.kind == 4) = true by simp [hk]]
      exact ⟨by simp only [cond_true, cond_false, List.all_cons, List.all_nil, isE_size]; rfl, by rw [cond_false, cond_false, cond_false, cond_false, cond_true, cond_true, joinB_one], by simp⟩
  · rw [show (c.kind == 1) = false by simp [hk], show (c.kind == 3) = false by simp [hk], show (c.kind == 4) = false by simp [hk]]
    simp only [cond_false]
    obtain ⟨q1, q2, q3, q4⟩ := quote_ne ha
    have hm := (askOk_sz ha).2.2.2.2
    unfold askWords
    cases h1 : (c.ask.kind == 1)
    · cases h2 : (c.ask.kind == 2)
      · cases h3 : (c.ask.kind == 3)
        · have hn : l01Num c.ask.most = true := by
            simp only [beq_eq_false_iff_ne] at h1 h2 h3
            rcases hm with h | h | h | h
            · exact absurd h h1
            · exact absurd h h2
            · exact absurd h h3
            · exact h
          cases c.ask.back
          · simp only [cond_false, List.all_cons, List.all_nil, q3, q4, isE_num, hn, l _ (show 0 < (#[115, 99, 97, 110] : Array UInt8).size by decide), joinB_cons, joinB_one]
            refine ⟨rfl, ?_, by simp⟩
            simp only [← ByteArray.append_assoc, lit_scan, lit_back]
          · simp only [cond_false, cond_true, List.all_cons, List.all_nil, q3, q4, isE_num, hn, l _ (show 0 < (#[98, 97, 99, 107] : Array UInt8).size by decide), joinB_cons, joinB_one]
            refine ⟨rfl, ?_, by simp⟩
            simp only [← ByteArray.append_assoc, lit_scan, lit_back]
        · simp only [cond_false, cond_true, List.all_cons, List.all_nil, q1, l _ (show 0 < (#[100, 101, 108] : Array UInt8).size by decide), joinB_cons, joinB_one]
          exact ⟨rfl, by simp only [← ByteArray.append_assoc, lit_get, lit_del], by simp⟩
      · simp only [cond_false, cond_true, List.all_cons, List.all_nil, q1, q2, l _ (show 0 < (#[112, 117, 116] : Array UInt8).size by decide), joinB_cons, joinB_one]
        refine ⟨rfl, ?_, by simp⟩
        simp only [← ByteArray.append_assoc, lit_put]
    · simp only [cond_true, List.all_cons, List.all_nil, q1, l _ (show 0 < (#[103, 101, 116] : Array UInt8).size by decide), joinB_cons, joinB_one]
      exact ⟨rfl, by simp only [← ByteArray.append_assoc, lit_get, lit_del], by simp⟩
theorem callOk_not_E {c : CallR} (h : callOkS c = true) : ((c.kind == 0) && askE c.ask) = false := by
  have : c.kind ≠ 0 := by rcases callOk_kind h with (h | h | h) | ⟨h, _⟩ <;> omega
  simp [this]
theorem c2I_false {p : Step} (h7 : p.kind ≠ 7) (h : c2I p = false) : p.b = 0 ∧ p.keep = [] ∧ (p.kind = 5 → p.a = 0) := by
  unfold c2I at h
  rw [show (p.kind != 7) = true by simp [h7], cond_true] at h
  by_cases hb : p.b = 0
  · rw [show (p.b != 0) = false by simp [hb], cond_false, List.length_map] at h
    cases hk : p.keep with
    | nil =>
      refine ⟨hb, rfl, fun h5 => ?_⟩
      rw [hk] at h
      rw [show decide (((([] : List Int).length : Nat) : Int) > 0) = false from rfl, cond_false, show (p.kind == 5) = true by simp [h5], cond_true] at h
      simpa using h
    | cons x xs =>
      rw [hk] at h
      rw [decide_eq_true (by simp only [List.length_cons]; omega), cond_true] at h
      cases h
  · rw [show (p.b != 0) = true by simp [hb], cond_true] at h
    cases h
theorem wordOf_el {k : Int} (h : 2 ≤ k ∧ k ≤ 9) : wordOf k = el wordsS k ∧ isE (wordOf k) = false := by
  obtain h | h | h | h | h | h | h | h : k = 2 ∨ k = 3 ∨ k = 4 ∨ k = 5 ∨ k = 6 ∨ k = 7 ∨ k = 8 ∨ k = 9 := by omega
  all_goals subst h; exact ⟨rfl, by rw [isE_size]; rfl⟩
theorem wordOf_no {k : Int} (h : ¬ (2 ≤ k ∧ k ≤ 9)) : isE (wordOf k) = true := by
  have f : ∀ j : Int, 2 ≤ j → j ≤ 9 → (k == j) = false := fun j h1 h2 => by
    rw [beq_eq_false_iff_ne]; rintro rfl; exact h ⟨h1, h2⟩
  unfold wordOf
  rw [f 2 (by decide) (by decide), f 3 (by decide) (by decide), f 4 (by decide) (by decide), f 5 (by decide) (by decide), f 6 (by decide) (by decide), f 7 (by decide) (by decide), f 8 (by decide) (by decide), f 9 (by decide) (by decide), isE_size]
  rfl
theorem foldJ_num : ∀ (ns : List Int) (o : ByteArray), foldJ ⟨#[32]⟩ (ns.map numText) o = keepT ns o
  | [], _ => rfl
  | n :: ns, o => by rw [List.map_cons, foldJ, keepT, foldJ_num ns]
theorem foldJ_join (sep : ByteArray) : ∀ (ws : List ByteArray) (o : ByteArray), ws ≠ [] → foldJ sep ws o = (o ++ sep) ++ joinB ws sep
  | [], _, h => absurd rfl h
  | w :: ws, o, _ => by rw [foldJ, foldJ_append, joinB_fold]
theorem noEmpty_cons (w : ByteArray) (ws : List ByteArray) : noEmpty (w :: ws) = (!(isE w) && noEmpty ws) := rfl
theorem noEmpty_append (a b : List ByteArray) : noEmpty (a ++ b) = (noEmpty a && noEmpty b) := by unfold noEmpty; rw [List.all_append]
theorem noEmpty_num : ∀ ns : List Int, noEmpty (ns.map numText) = ns.all l01Num
  | [] => rfl
  | n :: ns => by rw [List.map_cons, noEmpty_cons, noEmpty_num ns, isE_num, Bool.not_not, List.all_cons]
theorem isE_nil : isE ⟨#[]⟩ = true := by rw [isE_size]; rfl
theorem call_isE : isE (⟨#[99, 97, 108, 108]⟩ : ByteArray) = false := by rw [isE_size]; rfl
theorem step_call {p : Step} (hk : p.kind = 1) : stepI p = stepS p := by
  have e1 : (p.kind == 1) = true := by simp [hk]
  have e5 : (p.kind == 5) = false := by simp [hk]
  have e7 : (p.kind == 7) = false := by simp [hk]
  have n5 : (p.kind != 5) = true := by simp [hk]
  have hc2 : c2S p = c2I p := by unfold c2S; rw [show (p.kind != 1) = false by simp [hk]]; rfl
  rw [stepI, stepS, hc2]
  cases h2 : c2I p
  · obtain ⟨hb, hkeep, _⟩ := c2I_false (by omega) h2
    cases ha : l01Num p.a
    · have hs : c1S p = true := by unfold c1S; rw [ha]; cases decide (p.kind < 1) <;> cases decide (p.kind > 9) <;> rfl
      have hn : noEmpty (wordsI p) = false := by
        unfold wordsI
        rw [e1, cond_true, noEmpty_append, noEmpty_cons, noEmpty_cons, isE_num, ha]
        simp
      rw [hs, hn]
      cases c1I p <;> rfl
    · have hs : c1S p = false := by
        unfold c1S
        rw [ha, hb, show l01Num 0 = true from rfl, decide_eq_false (show ¬ p.kind < 1 by omega), decide_eq_false (show ¬ p.kind > 9 by omega)]
        rfl
      rw [hs, hkeep, e1]
      cases hok : callOkS p.call
      · have hi : c1I p = true := by
          unfold c1I
          rw [e1, callOk_eq, hok]
          cases ((p.call.kind == 0) && askE p.call.ask) <;> rfl
        have ht : callText p.call = ⟨#[]⟩ := by unfold callText; rw [hok]; rfl
        rw [hi, ht, cond_true]
        show _ = bif isE ⟨#[]⟩ then _ else _
        rw [isE_nil]
        rfl
      · have hi : c1I p = false := by
          unfold c1I
          rw [e1, callOk_eq, hok, callOk_not_E hok]
          rfl
        obtain ⟨g1, g2, g3⟩ := callWords_text hok
        have hn : noEmpty (wordsI p) = true := by
          unfold wordsI
          rw [e1, cond_true, noEmpty_append, noEmpty_cons, noEmpty_cons, isE_num, ha, call_isE, g1]
          rfl
        have hw : wordsI p = (⟨#[99, 97, 108, 108]⟩ : ByteArray) :: numText p.a :: callWords p.call := by unfold wordsI; rw [e1]; rfl
        have hh : headW p = ((⟨#[99, 97, 108, 108]⟩ : ByteArray) ++ ⟨#[32]⟩) ++ numText p.a := by
          unfold headW
          rw [e7, n5, cond_false, cond_true, hk]
          rfl
        rw [hi, hn, hw, joinB_fold, foldJ, foldJ_join _ _ _ g3, g2, hh]
        show _ = bif isE (callText p.call) then _ else _
        rw [callText_ne hok]
        rfl
  · cases c1I p <;> cases c1S p <;> rfl
theorem step_other {p : Step} (hk : p.kind ≠ 1) : stepI p = stepS p := by
  have e1 : (p.kind == 1) = false := by simp [hk]
  have n1 : (p.kind != 1) = true := by simp [hk]
  rw [stepI, stepS, e1]
  cases hE : ((p.call.kind == 0) && askE p.call.ask)
  · have hi : c1I p = true := by unfold c1I; rw [e1, hE]; rfl
    have hs : c2S p = true := by
      unfold c2S
      rw [n1, cond_true]
      cases h0 : (p.call.kind == 0)
      · rw [show (p.call.kind != 0) = true by simp only [bne, h0]; rfl]; rfl
      · rw [h0, Bool.true_and] at hE
        rw [hE]
        cases (p.call.kind != 0) <;> rfl
    rw [hi, hs]
    cases c1S p <;> rfl
  · rw [Bool.and_eq_true] at hE
    have hs : c2S p = c2I p := by
      unfold c2S
      rw [n1, hE.2, show (p.call.kind != 0) = false by simp only [bne, hE.1]; rfl]
      rfl
    have hi : c1I p = isE (wordOf p.kind) := by
      unfold c1I
      rw [e1, hE.1, hE.2]
      rfl
    rw [hs, hi]
    cases h2 : c2I p
    · by_cases hr : 2 ≤ p.kind ∧ p.kind ≤ 9
      · obtain ⟨w1, w2⟩ := wordOf_el hr
        have d1 : decide (p.kind < 1) = false := decide_eq_false (by omega)
        have d2 : decide (p.kind > 9) = false := decide_eq_false (by omega)
        rw [w2]
        by_cases h7 : p.kind = 7
        · have e5 : (p.kind == 5) = false := by simp [h7]
          have e7 : (p.kind == 7) = true := by simp [h7]
          have n5 : (p.kind != 5) = true := by simp [h7]
          have hw : wordsI p = wordOf p.kind :: numText p.a :: numText p.b :: p.keep.map numText := by unfold wordsI; rw [e1, e5, e7]; rfl
          have hn : noEmpty (wordsI p) = (l01Num p.a && (l01Num p.b && p.keep.all l01Num)) := by
            rw [hw, noEmpty_cons, noEmpty_cons, noEmpty_cons, noEmpty_num, isE_num, isE_num, w2]
            simp
          have hh : headW p = ((((wordOf p.kind) ++ ⟨#[32]⟩) ++ numText p.a) ++ ⟨#[32]⟩) ++ numText p.b := by unfold headW; rw [e7, n5, w1]; rfl
          have hc : c1S p = !(l01Num p.a && l01Num p.b) := by
            unfold c1S
            rw [d1, d2]
            cases l01Num p.a <;> cases l01Num p.b <;> rfl
          rw [hn, hc, hw, joinB_fold, foldJ, foldJ, foldJ_num, hh]
          cases l01Num p.a <;> cases l01Num p.b <;> cases p.keep.all l01Num <;> rfl
        · obtain ⟨hb, hkeep, h5⟩ := c2I_false h7 h2
          have e7 : (p.kind == 7) = false := by simp [h7]
          have hc : c1S p = !(l01Num p.a) := by
            unfold c1S
            rw [d1, d2, hb, show l01Num 0 = true from rfl]
            cases l01Num p.a <;> rfl
          rw [hc, hkeep]
          by_cases h5' : p.kind = 5
          · have e5 : (p.kind == 5) = true := by simp [h5']
            have hw : wordsI p = [wordOf p.kind] := by unfold wordsI; rw [e1, e5]; rfl
            have hh : headW p = wordOf p.kind := by unfold headW; rw [e7, show (p.kind != 5) = false by simp [h5'], w1]; rfl
            rw [h5 h5', hw, noEmpty_cons, w2, joinB_one, hh]
            rfl
          · have e5 : (p.kind == 5) = false := by simp [h5']
            have n5 : (p.kind != 5) = true := by simp [h5']
            have hw : wordsI p = [wordOf p.kind, numText p.a] := by unfold wordsI; rw [e1, e5, e7]; rfl
            have hh : headW p = ((wordOf p.kind) ++ ⟨#[32]⟩) ++ numText p.a := by unfold headW; rw [e7, n5, w1]; rfl
            rw [hw, noEmpty_cons, noEmpty_cons, w2, isE_num, joinB_cons, joinB_one, hh]
            cases l01Num p.a <;> rfl
      · have hc : c1S p = true := by
          unfold c1S
          by_cases d1 : p.kind < 1
          · rw [decide_eq_true d1]; rfl
          · rw [decide_eq_false d1, decide_eq_true (show p.kind > 9 by omega)]; rfl
        rw [wordOf_no hr, hc]
        rfl
    · cases isE (wordOf p.kind) <;> cases c1S p <;> rfl
theorem stepI_eq (p : Step) : stepI p = stepS p := by
  by_cases h : p.kind = 1
  · exact step_call h
  · exact step_other h

def szRange (p : Range) (l : Int) : Int := bif (decide ((IntKind.wrap .i64 (l - ((p.lo.size : Int)))) < 0)) then (-1) else (bif (decide ((IntKind.wrap .i64 ((IntKind.wrap .i64 (l - ((p.lo.size : Int)))) - ((p.hi.size : Int)))) < 0)) then (-1) else (IntKind.wrap .i64 ((IntKind.wrap .i64 (l - ((p.lo.size : Int)))) - ((p.hi.size : Int)))))
/-- laws.szRange -/
theorem ok36 (p : Range) (l : Int) : CallOK Try.prog 36 [.agg [.c (sC p.lo), .c (sC p.hi)], iV l] (iV (szRange p l)) [] :=
  callOK tyOK Try.func36 rfl fun w S hS => by
    refine a_seq ?_
    refine a_run [1, 2] tyOK (st1 := mk 20 [(1, iV l), (2, .one (.pl [(2, 0)] 0 0))] [(2, [.bx [sC p.lo, sC p.hi]])]) (by kernel_rfl) ?_
    refine a_seq ?_
    refine a_run [1, 2] tyOK (st1 := mk 20 [(1, iV (IntKind.wrap .i64 (l - ((p.lo.size : Int))))), (2, .one (.pl [(2, 0)] 0 0))] [(2, [.bx [sC p.lo, sC p.hi]])]) (by kernel_rfl) ?_
    refine a_seq ?_
    refine a_seq ?_
    refine a_run [1, 2, 11] tyOK (st1 := mk 20 [(1, iV (IntKind.wrap .i64 (l - ((p.lo.size : Int))))), (2, .one (.pl [(2, 0)] 0 0)), (11, bV (decide ((IntKind.wrap .i64 (l - ((p.lo.size : Int)))) < 0)))] [(2, [.bx [sC p.lo, sC p.hi]])]) (by kernel_rfl) ?_
    refine a_cond (b := decide ((IntKind.wrap .i64 (l - ((p.lo.size : Int)))) < 0)) (by kernel_rfl) (fun h1 => ?_) (fun h1 => ?_)
    · have g1 := h1
      try simp only [decide_eq_true_eq, decide_eq_false_iff_not] at g1
      refine a_seq ?_
      refine a_run [4] tyOK (st1 := mk 20 [(4, iV (-1))] []) (by kernel_rfl) ?_
      refine a_ret ?_
      have e : szRange p l = -1 := by rw [szRange]; rw [h1, cond_true]
      exact end_eq (res' := iV (-1)) (by kernel_rfl) (by rw [e] <;> rfl)
    · have g1 := h1
      try simp only [decide_eq_true_eq, decide_eq_false_iff_not] at g1
      refine a_skip ?_
      refine a_seq ?_
      refine a_run [1] tyOK (st1 := mk 20 [(1, iV (IntKind.wrap .i64 ((IntKind.wrap .i64 (l - ((p.lo.size : Int)))) - ((p.hi.size : Int)))))] []) (by kernel_rfl) ?_
      refine a_seq ?_
      refine a_seq ?_
      refine a_run [1, 18] tyOK (st1 := mk 20 [(1, iV (IntKind.wrap .i64 ((IntKind.wrap .i64 (l - ((p.lo.size : Int)))) - ((p.hi.size : Int))))), (18, bV (decide ((IntKind.wrap .i64 ((IntKind.wrap .i64 (l - ((p.lo.size : Int)))) - ((p.hi.size : Int)))) < 0)))] []) (by kernel_rfl) ?_
      refine a_cond (b := decide ((IntKind.wrap .i64 ((IntKind.wrap .i64 (l - ((p.lo.size : Int)))) - ((p.hi.size : Int)))) < 0)) (by kernel_rfl) (fun h2 => ?_) (fun h2 => ?_)
      · have g2 := h2
        try simp only [decide_eq_true_eq, decide_eq_false_iff_not] at g2
        refine a_seq ?_
        refine a_run [4] tyOK (st1 := mk 20 [(4, iV (-1))] []) (by kernel_rfl) ?_
        refine a_ret ?_
        have e : szRange p l = -1 := by rw [szRange]; rw [h1, cond_false, h2, cond_true]
        exact end_eq (res' := iV (-1)) (by kernel_rfl) (by rw [e] <;> rfl)
      · have g2 := h2
        try simp only [decide_eq_true_eq, decide_eq_false_iff_not] at g2
        refine a_skip ?_
        refine a_seq ?_
        refine a_run [4] tyOK (st1 := mk 20 [(4, iV (IntKind.wrap .i64 ((IntKind.wrap .i64 (l - ((p.lo.size : Int)))) - ((p.hi.size : Int)))))] []) (by kernel_rfl) ?_
        refine a_ret ?_
        have e : szRange p l = IntKind.wrap .i64 ((IntKind.wrap .i64 (l - ((p.lo.size : Int)))) - ((p.hi.size : Int))) := by rw [szRange]; rw [h1, cond_false, h2, cond_false]
        exact end_eq (res' := iV (IntKind.wrap .i64 ((IntKind.wrap .i64 (l - ((p.lo.size : Int)))) - ((p.hi.size : Int))))) (by kernel_rfl) (by rw [e] <;> rfl)



def szAsk (p : Ask) (l : Int) : Int := bif (decide ((IntKind.wrap .i64 (l - ((p.key.size : Int)))) < 0)) then (-1) else (bif (decide ((IntKind.wrap .i64 ((IntKind.wrap .i64 (l - ((p.key.size : Int)))) - ((p.val.size : Int)))) < 0)) then (-1) else (bif (decide ((szRange p.range (IntKind.wrap .i64 ((IntKind.wrap .i64 (l - ((p.key.size : Int)))) - ((p.val.size : Int))))) < 0)) then (-1) else (szRange p.range (IntKind.wrap .i64 ((IntKind.wrap .i64 (l - ((p.key.size : Int)))) - ((p.val.size : Int)))))))
/-- laws.szAsk -/
theorem ok24 (p : Ask) (l : Int) : CallOK Try.prog 24 [.agg [.c (iC p.kind), .c (sC p.key), .c (sC p.val), .c (sC p.range.lo), .c (sC p.range.hi), .c (iC p.most), .c (bC p.back)], iV l] (iV (szAsk p l)) [] :=
  callOK tyOK Try.func24 rfl fun w S hS => by
    refine a_seq ?_
    refine a_run [1, 2] tyOK (st1 := mk 26 [(1, iV l), (2, .one (.pl [(2, 0)] 0 0))] [(2, [.bx [iC p.kind, sC p.key, sC p.val, sC p.range.lo, sC p.range.hi, iC p.most, bC p.back]])]) (by kernel_rfl) ?_
    refine a_seq ?_
    refine a_run [1, 2] tyOK (st1 := mk 26 [(1, iV (IntKind.wrap .i64 (l - ((p.key.size : Int))))), (2, .one (.pl [(2, 0)] 0 0))] [(2, [.bx [iC p.kind, sC p.key, sC p.val, sC p.range.lo, sC p.range.hi, iC p.most, bC p.back]])]) (by kernel_rfl) ?_
    refine a_seq ?_
    refine a_seq ?_
    refine a_run [1, 2, 11] tyOK (st1 := mk 26 [(1, iV (IntKind.wrap .i64 (l - ((p.key.size : Int))))), (2, .one (.pl [(2, 0)] 0 0)), (11, bV (decide ((IntKind.wrap .i64 (l - ((p.key.size : Int)))) < 0)))] [(2, [.bx [iC p.kind, sC p.key, sC p.val, sC p.range.lo, sC p.range.hi, iC p.most, bC p.back]])]) (by kernel_rfl) ?_
    refine a_cond (b := decide ((IntKind.wrap .i64 (l - ((p.key.size : Int)))) < 0)) (by kernel_rfl) (fun h1 => ?_) (fun h1 => ?_)
    · have g1 := h1
      try simp only [decide_eq_true_eq, decide_eq_false_iff_not] at g1
      refine a_seq ?_
      refine a_run [4] tyOK (st1 := mk 26 [(4, iV (-1))] []) (by kernel_rfl) ?_
      refine a_ret ?_
      have e : szAsk p l = -1 := by rw [szAsk]; rw [h1, cond_true]
      exact end_eq (res' := iV (-1)) (by kernel_rfl) (by rw [e] <;> rfl)
    · have g1 := h1
      try simp only [decide_eq_true_eq, decide_eq_false_iff_not] at g1
      refine a_skip ?_
      refine a_seq ?_
      refine a_run [1, 2] tyOK (st1 := mk 26 [(1, iV (IntKind.wrap .i64 ((IntKind.wrap .i64 (l - ((p.key.size : Int)))) - ((p.val.size : Int))))), (2, .one (.pl [(2, 0)] 0 0))] [(2, [.bx [iC p.kind, sC p.key, sC p.val, sC p.range.lo, sC p.range.hi, iC p.most, bC p.back]])]) (by kernel_rfl) ?_
      refine a_seq ?_
      refine a_seq ?_
      refine a_run [1, 2, 18] tyOK (st1 := mk 26 [(1, iV (IntKind.wrap .i64 ((IntKind.wrap .i64 (l - ((p.key.size : Int)))) - ((p.val.size : Int))))), (2, .one (.pl [(2, 0)] 0 0)), (18, bV (decide ((IntKind.wrap .i64 ((IntKind.wrap .i64 (l - ((p.key.size : Int)))) - ((p.val.size : Int)))) < 0)))] [(2, [.bx [iC p.kind, sC p.key, sC p.val, sC p.range.lo, sC p.range.hi, iC p.most, bC p.back]])]) (by kernel_rfl) ?_
      refine a_cond (b := decide ((IntKind.wrap .i64 ((IntKind.wrap .i64 (l - ((p.key.size : Int)))) - ((p.val.size : Int)))) < 0)) (by kernel_rfl) (fun h2 => ?_) (fun h2 => ?_)
      · have g2 := h2
        try simp only [decide_eq_true_eq, decide_eq_false_iff_not] at g2
        refine a_seq ?_
        refine a_run [4] tyOK (st1 := mk 26 [(4, iV (-1))] []) (by kernel_rfl) ?_
        refine a_ret ?_
        have e : szAsk p l = -1 := by rw [szAsk]; rw [h1, cond_false, h2, cond_true]
        exact end_eq (res' := iV (-1)) (by kernel_rfl) (by rw [e] <;> rfl)
      · have g2 := h2
        try simp only [decide_eq_true_eq, decide_eq_false_iff_not] at g2
        refine a_skip ?_
        refine a_seq ?_
        refine a_ops [0, 1, 2, 3, 4] (by kernel_rfl) ?_
        refine ao_some [0, 1, 2] [3, 4] [20, 21] tyOK (st1 := mk 26 [(20, .agg [.c (sC p.range.lo), .c (sC p.range.hi)]), (21, iV (IntKind.wrap .i64 ((IntKind.wrap .i64 (l - ((p.key.size : Int)))) - ((p.val.size : Int)))))] []) (by kernel_rfl) ?_
        refine ao_enter (f := 36) (d := 22) (A := [.agg [.c (sC p.range.lo), .c (sC p.range.hi)], iV (IntKind.wrap .i64 ((IntKind.wrap .i64 (l - ((p.key.size : Int)))) - ((p.val.size : Int))))]) (st1 := mk 26 [(22, iV (szRange p.range (IntKind.wrap .i64 ((IntKind.wrap .i64 (l - ((p.key.size : Int)))) - ((p.val.size : Int))))))] []) [22] (ok36 p.range (IntKind.wrap .i64 ((IntKind.wrap .i64 (l - ((p.key.size : Int)))) - ((p.val.size : Int))))) Try.call36 (by kernel_rfl) (by kernel_rfl) (by kernel_rfl) ?_
        refine ao_some [4] [] [1] tyOK (st1 := mk 26 [(1, iV (szRange p.range (IntKind.wrap .i64 ((IntKind.wrap .i64 (l - ((p.key.size : Int)))) - ((p.val.size : Int))))))] []) (by kernel_rfl) ?_
        refine ao_nil ?_
        refine a_seq ?_
        refine a_seq ?_
        refine a_run [1, 24] tyOK (st1 := mk 26 [(1, iV (szRange p.range (IntKind.wrap .i64 ((IntKind.wrap .i64 (l - ((p.key.size : Int)))) - ((p.val.size : Int)))))), (24, bV (decide ((szRange p.range (IntKind.wrap .i64 ((IntKind.wrap .i64 (l - ((p.key.size : Int)))) - ((p.val.size : Int))))) < 0)))] []) (by kernel_rfl) ?_
        refine a_cond (b := decide ((szRange p.range (IntKind.wrap .i64 ((IntKind.wrap .i64 (l - ((p.key.size : Int)))) - ((p.val.size : Int))))) < 0)) (by kernel_rfl) (fun h3 => ?_) (fun h3 => ?_)
        · have g3 := h3
          try simp only [decide_eq_true_eq, decide_eq_false_iff_not] at g3
          refine a_seq ?_
          refine a_run [4] tyOK (st1 := mk 26 [(4, iV (-1))] []) (by kernel_rfl) ?_
          refine a_ret ?_
          have e : szAsk p l = -1 := by rw [szAsk]; rw [h1, cond_false, h2, cond_false, h3, cond_true]
          exact end_eq (res' := iV (-1)) (by kernel_rfl) (by rw [e] <;> rfl)
        · have g3 := h3
          try simp only [decide_eq_true_eq, decide_eq_false_iff_not] at g3
          refine a_skip ?_
          refine a_seq ?_
          refine a_run [4] tyOK (st1 := mk 26 [(4, iV (szRange p.range (IntKind.wrap .i64 ((IntKind.wrap .i64 (l - ((p.key.size : Int)))) - ((p.val.size : Int))))))] []) (by kernel_rfl) ?_
          refine a_ret ?_
          have e : szAsk p l = szRange p.range (IntKind.wrap .i64 ((IntKind.wrap .i64 (l - ((p.key.size : Int)))) - ((p.val.size : Int)))) := by rw [szAsk]; rw [h1, cond_false, h2, cond_false, h3, cond_false]
          exact end_eq (res' := iV (szRange p.range (IntKind.wrap .i64 ((IntKind.wrap .i64 (l - ((p.key.size : Int)))) - ((p.val.size : Int)))))) (by kernel_rfl) (by rw [e] <;> rfl)



def szCall (p : CallR) (l : Int) : Int := bif (decide ((szAsk p.ask l) < 0)) then (-1) else (szAsk p.ask l)
/-- laws.szCall -/
theorem ok10 (p : CallR) (l : Int) : CallOK Try.prog 10 [.agg [.c (iC p.kind), .c (iC p.ask.kind), .c (sC p.ask.key), .c (sC p.ask.val), .c (sC p.ask.range.lo), .c (sC p.ask.range.hi), .c (iC p.ask.most), .c (bC p.ask.back)], iV l] (iV (szCall p l)) [] :=
  callOK tyOK Try.func10 rfl fun w S hS => by
    refine a_seq ?_
    refine a_run [1, 2] tyOK (st1 := mk 12 [(1, iV l), (2, .one (.pl [(2, 0)] 0 0))] [(2, [.bx [iC p.kind, iC p.ask.kind, sC p.ask.key, sC p.ask.val, sC p.ask.range.lo, sC p.ask.range.hi, iC p.ask.most, bC p.ask.back]])]) (by kernel_rfl) ?_
    refine a_seq ?_
    refine a_ops [0, 1, 2, 3, 4] (by kernel_rfl) ?_
    refine ao_some [0, 1, 2] [3, 4] [6, 7] tyOK (st1 := mk 12 [(6, .agg [.c (iC p.ask.kind), .c (sC p.ask.key), .c (sC p.ask.val), .c (sC p.ask.range.lo), .c (sC p.ask.range.hi), .c (iC p.ask.most), .c (bC p.ask.back)]), (7, iV l)] []) (by kernel_rfl) ?_
    refine ao_enter (f := 24) (d := 8) (A := [.agg [.c (iC p.ask.kind), .c (sC p.ask.key), .c (sC p.ask.val), .c (sC p.ask.range.lo), .c (sC p.ask.range.hi), .c (iC p.ask.most), .c (bC p.ask.back)], iV l]) (st1 := mk 12 [(8, iV (szAsk p.ask l))] []) [8] (ok24 p.ask l) Try.call24 (by kernel_rfl) (by kernel_rfl) (by kernel_rfl) ?_
    refine ao_some [4] [] [1] tyOK (st1 := mk 12 [(1, iV (szAsk p.ask l))] []) (by kernel_rfl) ?_
    refine ao_nil ?_
    refine a_seq ?_
    refine a_seq ?_
    refine a_run [1, 10] tyOK (st1 := mk 12 [(1, iV (szAsk p.ask l)), (10, bV (decide ((szAsk p.ask l) < 0)))] []) (by kernel_rfl) ?_
    refine a_cond (b := decide ((szAsk p.ask l) < 0)) (by kernel_rfl) (fun h1 => ?_) (fun h1 => ?_)
    · have g1 := h1
      try simp only [decide_eq_true_eq, decide_eq_false_iff_not] at g1
      refine a_seq ?_
      refine a_run [4] tyOK (st1 := mk 12 [(4, iV (-1))] []) (by kernel_rfl) ?_
      refine a_ret ?_
      have e : szCall p l = -1 := by rw [szCall]; rw [h1, cond_true]
      exact end_eq (res' := iV (-1)) (by kernel_rfl) (by rw [e] <;> rfl)
    · have g1 := h1
      try simp only [decide_eq_true_eq, decide_eq_false_iff_not] at g1
      refine a_skip ?_
      refine a_seq ?_
      refine a_run [4] tyOK (st1 := mk 12 [(4, iV (szAsk p.ask l))] []) (by kernel_rfl) ?_
      refine a_ret ?_
      have e : szCall p l = szAsk p.ask l := by rw [szCall]; rw [h1, cond_false]
      exact end_eq (res' := iV (szAsk p.ask l)) (by kernel_rfl) (by rw [e] <;> rfl)



def szIntS (p : (List Int)) (l : Int) : Int := bif (decide ((IntKind.wrap .i64 (l - (((((p).map eInt).length : Nat) : Int)))) < 0)) then (-1) else (IntKind.wrap .i64 (l - (((((p).map eInt).length : Nat) : Int))))
/-- laws.szIntS -/
theorem ok9 (p : (List Int)) (l : Int) (hn : p.length < 9223372036854775808) : CallOK Try.prog 9 [.one (.c (.sl 1 ((p).map eInt))), iV l] (iV (szIntS p l)) [] :=
  callOK tyOK Try.func9 rfl fun w S hS => by
    refine a_seq ?_
    refine a_run [0, 1] tyOK (st1 := mk 12 [(0, .one (.c (.sl 1 ((p).map eInt)))), (1, iV l)] []) (by kernel_rfl) ?_
    refine a_seq ?_
    refine a_run [1] tyOK (st1 := mk 12 [(1, iV (IntKind.wrap .i64 (l - (((((p).map eInt).length : Nat) : Int)))))] []) (by kernel_rfl) ?_
    refine a_seq ?_
    refine a_seq ?_
    refine a_run [1, 10] tyOK (st1 := mk 12 [(1, iV (IntKind.wrap .i64 (l - (((((p).map eInt).length : Nat) : Int))))), (10, bV (decide ((IntKind.wrap .i64 (l - (((((p).map eInt).length : Nat) : Int)))) < 0)))] []) (by kernel_rfl) ?_
    refine a_cond (b := decide ((IntKind.wrap .i64 (l - (((((p).map eInt).length : Nat) : Int)))) < 0)) (by kernel_rfl) (fun h1 => ?_) (fun h1 => ?_)
    · have g1 := h1
      try simp only [decide_eq_true_eq, decide_eq_false_iff_not, List.length_map] at g1
      refine a_seq ?_
      refine a_run [4] tyOK (st1 := mk 12 [(4, iV (-1))] []) (by kernel_rfl) ?_
      refine a_ret ?_
      have e : szIntS p l = -1 := by rw [szIntS]; rw [h1, cond_true]
      exact end_eq (res' := iV (-1)) (by kernel_rfl) (by rw [e] <;> rfl)
    · have g1 := h1
      try simp only [decide_eq_true_eq, decide_eq_false_iff_not, List.length_map] at g1
      refine a_skip ?_
      refine a_seq ?_
      refine a_run [4] tyOK (st1 := mk 12 [(4, iV (IntKind.wrap .i64 (l - (((((p).map eInt).length : Nat) : Int)))))] []) (by kernel_rfl) ?_
      refine a_ret ?_
      have e : szIntS p l = IntKind.wrap .i64 (l - (((((p).map eInt).length : Nat) : Int))) := by rw [szIntS]; rw [h1, cond_false]
      exact end_eq (res' := iV (IntKind.wrap .i64 (l - (((((p).map eInt).length : Nat) : Int))))) (by kernel_rfl) (by rw [e] <;> rfl)


def okRange (r : Range) : Prop := r.lo.size ≤ 140737488351232 ∧ r.hi.size ≤ 140737488351232
def okAsk (a : Ask) : Prop := a.key.size ≤ 140737488351232 ∧ a.val.size ≤ 140737488351232 ∧ okRange a.range
def okCall (c : CallR) : Prop := okAsk c.ask
def okStep (p : Step) : Prop := p.keep.length * 8 ≤ 140737488351232 ∧ okCall p.call

def szStep (p : Step) (l : Int) : Int := bif (decide ((szIntS p.keep l) < 0)) then (-1) else (bif (decide ((szCall p.call (szIntS p.keep l)) < 0)) then (-1) else (szCall p.call (szIntS p.keep l)))
/-- laws.szStep -/
theorem ok4 (p : Step) (l : Int) (hp : okStep p) : CallOK Try.prog 4 [.agg [.c (iC p.kind), .c (iC p.a), .c (iC p.b), .c (.sl 1 ((p.keep).map eInt)), .c (iC p.call.kind), .c (iC p.call.ask.kind), .c (sC p.call.ask.key), .c (sC p.call.ask.val), .c (sC p.call.ask.range.lo), .c (sC p.call.ask.range.hi), .c (iC p.call.ask.most), .c (bC p.call.ask.back)], iV l] (iV (szStep p l)) [] :=
  callOK tyOK Try.func4 rfl fun w S hS => by
    refine a_seq ?_
    refine a_run [1, 2] tyOK (st1 := mk 18 [(1, iV l), (2, .one (.pl [(2, 0)] 0 0))] [(2, [.bx [iC p.kind, iC p.a, iC p.b, .fz (.sl 1 ((p.keep).map eInt)), iC p.call.kind, iC p.call.ask.kind, sC p.call.ask.key, sC p.call.ask.val, sC p.call.ask.range.lo, sC p.call.ask.range.hi, iC p.call.ask.most, bC p.call.ask.back]])]) (by kernel_rfl) ?_
    refine a_seq ?_
    refine a_ops [0, 1, 2, 3, 4] (by kernel_rfl) ?_
    refine ao_some [0, 1, 2] [3, 4] [2, 6, 7] tyOK (st1 := mk 18 [(2, .one (.pl [(2, 0)] 0 0)), (6, .one (.c (.sl 1 ((p.keep).map eInt)))), (7, iV l)] [(2, [.bx [iC p.kind, iC p.a, iC p.b, .fz (.sl 1 ((p.keep).map eInt)), iC p.call.kind, iC p.call.ask.kind, sC p.call.ask.key, sC p.call.ask.val, sC p.call.ask.range.lo, sC p.call.ask.range.hi, iC p.call.ask.most, bC p.call.ask.back]])]) (by kernel_rfl) ?_
    refine ao_enter (f := 9) (d := 8) (A := [.one (.c (.sl 1 ((p.keep).map eInt))), iV l]) (st1 := mk 18 [(2, .one (.pl [(2, 0)] 0 0)), (8, iV (szIntS p.keep l))] [(2, [.bx [iC p.kind, iC p.a, iC p.b, .fz (.sl 1 ((p.keep).map eInt)), iC p.call.kind, iC p.call.ask.kind, sC p.call.ask.key, sC p.call.ask.val, sC p.call.ask.range.lo, sC p.call.ask.range.hi, iC p.call.ask.most, bC p.call.ask.back]])]) [2, 8] (ok9 p.keep l (by have := hp.1; omega)) Try.call9 (by kernel_rfl) (by kernel_rfl) (by kernel_rfl) ?_
    refine ao_some [4] [] [1, 2] tyOK (st1 := mk 18 [(1, iV (szIntS p.keep l)), (2, .one (.pl [(2, 0)] 0 0))] [(2, [.bx [iC p.kind, iC p.a, iC p.b, .fz (.sl 1 ((p.keep).map eInt)), iC p.call.kind, iC p.call.ask.kind, sC p.call.ask.key, sC p.call.ask.val, sC p.call.ask.range.lo, sC p.call.ask.range.hi, iC p.call.ask.most, bC p.call.ask.back]])]) (by kernel_rfl) ?_
    refine ao_nil ?_
    refine a_seq ?_
    refine a_seq ?_
    refine a_run [1, 2, 10] tyOK (st1 := mk 18 [(1, iV (szIntS p.keep l)), (2, .one (.pl [(2, 0)] 0 0)), (10, bV (decide ((szIntS p.keep l) < 0)))] [(2, [.bx [iC p.kind, iC p.a, iC p.b, .fz (.sl 1 ((p.keep).map eInt)), iC p.call.kind, iC p.call.ask.kind, sC p.call.ask.key, sC p.call.ask.val, sC p.call.ask.range.lo, sC p.call.ask.range.hi, iC p.call.ask.most, bC p.call.ask.back]])]) (by kernel_rfl) ?_
    refine a_cond (b := decide ((szIntS p.keep l) < 0)) (by kernel_rfl) (fun h1 => ?_) (fun h1 => ?_)
    · have g1 := h1
      try simp only [decide_eq_true_eq, decide_eq_false_iff_not] at g1
      refine a_seq ?_
      refine a_run [4] tyOK (st1 := mk 18 [(4, iV (-1))] []) (by kernel_rfl) ?_
      refine a_ret ?_
      have e : szStep p l = -1 := by rw [szStep]; rw [h1, cond_true]
      exact end_eq (res' := iV (-1)) (by kernel_rfl) (by rw [e] <;> rfl)
    · have g1 := h1
      try simp only [decide_eq_true_eq, decide_eq_false_iff_not] at g1
      refine a_skip ?_
      refine a_seq ?_
      refine a_ops [0, 1, 2, 3, 4] (by kernel_rfl) ?_
      refine ao_some [0, 1, 2] [3, 4] [12, 13] tyOK (st1 := mk 18 [(12, .agg [.c (iC p.call.kind), .c (iC p.call.ask.kind), .c (sC p.call.ask.key), .c (sC p.call.ask.val), .c (sC p.call.ask.range.lo), .c (sC p.call.ask.range.hi), .c (iC p.call.ask.most), .c (bC p.call.ask.back)]), (13, iV (szIntS p.keep l))] []) (by kernel_rfl) ?_
      refine ao_enter (f := 10) (d := 14) (A := [.agg [.c (iC p.call.kind), .c (iC p.call.ask.kind), .c (sC p.call.ask.key), .c (sC p.call.ask.val), .c (sC p.call.ask.range.lo), .c (sC p.call.ask.range.hi), .c (iC p.call.ask.most), .c (bC p.call.ask.back)], iV (szIntS p.keep l)]) (st1 := mk 18 [(14, iV (szCall p.call (szIntS p.keep l)))] []) [14] (ok10 p.call (szIntS p.keep l)) Try.call10 (by kernel_rfl) (by kernel_rfl) (by kernel_rfl) ?_
      refine ao_some [4] [] [1] tyOK (st1 := mk 18 [(1, iV (szCall p.call (szIntS p.keep l)))] []) (by kernel_rfl) ?_
      refine ao_nil ?_
      refine a_seq ?_
      refine a_seq ?_
      refine a_run [1, 16] tyOK (st1 := mk 18 [(1, iV (szCall p.call (szIntS p.keep l))), (16, bV (decide ((szCall p.call (szIntS p.keep l)) < 0)))] []) (by kernel_rfl) ?_
      refine a_cond (b := decide ((szCall p.call (szIntS p.keep l)) < 0)) (by kernel_rfl) (fun h2 => ?_) (fun h2 => ?_)
      · have g2 := h2
        try simp only [decide_eq_true_eq, decide_eq_false_iff_not] at g2
        refine a_seq ?_
        refine a_run [4] tyOK (st1 := mk 18 [(4, iV (-1))] []) (by kernel_rfl) ?_
        refine a_ret ?_
        have e : szStep p l = -1 := by rw [szStep]; rw [h1, cond_false, h2, cond_true]
        exact end_eq (res' := iV (-1)) (by kernel_rfl) (by rw [e] <;> rfl)
      · have g2 := h2
        try simp only [decide_eq_true_eq, decide_eq_false_iff_not] at g2
        refine a_skip ?_
        refine a_seq ?_
        refine a_run [4] tyOK (st1 := mk 18 [(4, iV (szCall p.call (szIntS p.keep l)))] []) (by kernel_rfl) ?_
        refine a_ret ?_
        have e : szStep p l = szCall p.call (szIntS p.keep l) := by rw [szStep]; rw [h1, cond_false, h2, cond_false]
        exact end_eq (res' := iV (szCall p.call (szIntS p.keep l))) (by kernel_rfl) (by rw [e] <;> rfl)



def toRange (p : Range) : Range := p
/-- laws.toRange -/
theorem ok39 (p : Range) : CallOK Try.prog 39 [.agg [.c (sC p.lo), .c (sC p.hi)]] (.agg [.c (sC ((toRange p).lo)), .c (sC ((toRange p).hi))]) [] :=
  callOK tyOK Try.func39 rfl fun w S hS => by
    refine a_seq ?_
    refine a_run [1, 2] tyOK (st1 := mk 11 [(1, .one (.pl [(1, 0)] 0 0)), (2, .one (.pl [(2, 0)] 0 0))] [(1, [.bx [sC p.lo, sC p.hi]]), (2, [.bx [sC ((⟨#[]⟩ : ByteArray)), sC ((⟨#[]⟩ : ByteArray))]])]) (by kernel_rfl) ?_
    refine a_seq ?_
    refine a_run [1, 2, 3] tyOK (st1 := mk 11 [(1, .one (.pl [(1, 0)] 0 0)), (2, .one (.pl [(2, 0)] 0 0)), (3, .one (.pl [(3, 0)] 0 0))] [(1, [.bx [sC p.lo, sC p.hi]]), (2, [.bx [sC ((⟨#[]⟩ : ByteArray)), sC ((⟨#[]⟩ : ByteArray))]]), (3, [.bx [sC ((⟨#[]⟩ : ByteArray)), sC ((⟨#[]⟩ : ByteArray))]])]) (by kernel_rfl) ?_
    refine a_seq ?_
    refine a_run [1, 2, 3] tyOK (st1 := mk 11 [(1, .one (.pl [(1, 0)] 0 0)), (2, .one (.pl [(2, 0)] 0 0)), (3, .one (.pl [(3, 0)] 0 0))] [(1, [.bx [sC p.lo, sC p.hi]]), (2, [.bx [sC ((⟨#[]⟩ : ByteArray)), sC ((⟨#[]⟩ : ByteArray))]]), (3, [.bx [sC p.lo, sC ((⟨#[]⟩ : ByteArray))]])]) (by kernel_rfl) ?_
    refine a_seq ?_
    refine a_run [2, 3] tyOK (st1 := mk 11 [(2, .one (.pl [(2, 0)] 0 0)), (3, .one (.pl [(3, 0)] 0 0))] [(2, [.bx [sC ((⟨#[]⟩ : ByteArray)), sC ((⟨#[]⟩ : ByteArray))]]), (3, [.bx [sC p.lo, sC p.hi]])]) (by kernel_rfl) ?_
    refine a_seq ?_
    refine a_run [2] tyOK (st1 := mk 11 [(2, .one (.pl [(2, 0)] 0 0))] [(2, [.bx [sC p.lo, sC p.hi]])]) (by kernel_rfl) ?_
    refine a_ret ?_
    have e : toRange p = p := by rw [toRange]
    exact end_eq (res' := .agg [.c (sC p.lo), .c (sC p.hi)]) (by kernel_rfl) (by rw [e] <;> rfl)



def toAsk (p : Ask) : Ask := (⟨p.kind, p.key, p.val, toRange p.range, p.most, p.back⟩ : Ask)
/-- laws.toAsk -/
theorem ok27 (p : Ask) : CallOK Try.prog 27 [.agg [.c (iC p.kind), .c (sC p.key), .c (sC p.val), .c (sC p.range.lo), .c (sC p.range.hi), .c (iC p.most), .c (bC p.back)]] (.agg [.c (iC ((toAsk p).kind)), .c (sC ((toAsk p).key)), .c (sC ((toAsk p).val)), .c (sC (((toAsk p).range).lo)), .c (sC (((toAsk p).range).hi)), .c (iC ((toAsk p).most)), .c (bC ((toAsk p).back))]) [] :=
  callOK tyOK Try.func27 rfl fun w S hS => by
    refine a_seq ?_
    refine a_run [1, 2] tyOK (st1 := mk 24 [(1, .one (.pl [(1, 0)] 0 0)), (2, .one (.pl [(2, 0)] 0 0))] [(1, [.bx [iC p.kind, sC p.key, sC p.val, sC p.range.lo, sC p.range.hi, iC p.most, bC p.back]]), (2, [.bx [iC 0, sC ((⟨#[]⟩ : ByteArray)), sC ((⟨#[]⟩ : ByteArray)), sC ((⟨#[]⟩ : ByteArray)), sC ((⟨#[]⟩ : ByteArray)), iC 0, bC false]])]) (by kernel_rfl) ?_
    refine a_seq ?_
    refine a_run [1, 2, 3] tyOK (st1 := mk 24 [(1, .one (.pl [(1, 0)] 0 0)), (2, .one (.pl [(2, 0)] 0 0)), (3, .one (.pl [(3, 0)] 0 0))] [(1, [.bx [iC p.kind, sC p.key, sC p.val, sC p.range.lo, sC p.range.hi, iC p.most, bC p.back]]), (2, [.bx [iC 0, sC ((⟨#[]⟩ : ByteArray)), sC ((⟨#[]⟩ : ByteArray)), sC ((⟨#[]⟩ : ByteArray)), sC ((⟨#[]⟩ : ByteArray)), iC 0, bC false]]), (3, [.bx [iC 0, sC ((⟨#[]⟩ : ByteArray)), sC ((⟨#[]⟩ : ByteArray)), sC ((⟨#[]⟩ : ByteArray)), sC ((⟨#[]⟩ : ByteArray)), iC 0, bC false]])]) (by kernel_rfl) ?_
    refine a_seq ?_
    refine a_run [1, 2, 3] tyOK (st1 := mk 24 [(1, .one (.pl [(1, 0)] 0 0)), (2, .one (.pl [(2, 0)] 0 0)), (3, .one (.pl [(3, 0)] 0 0))] [(1, [.bx [iC p.kind, sC p.key, sC p.val, sC p.range.lo, sC p.range.hi, iC p.most, bC p.back]]), (2, [.bx [iC 0, sC ((⟨#[]⟩ : ByteArray)), sC ((⟨#[]⟩ : ByteArray)), sC ((⟨#[]⟩ : ByteArray)), sC ((⟨#[]⟩ : ByteArray)), iC 0, bC false]]), (3, [.bx [iC p.kind, sC ((⟨#[]⟩ : ByteArray)), sC ((⟨#[]⟩ : ByteArray)), sC ((⟨#[]⟩ : ByteArray)), sC ((⟨#[]⟩ : ByteArray)), iC 0, bC false]])]) (by kernel_rfl) ?_
    refine a_seq ?_
    refine a_run [1, 2, 3] tyOK (st1 := mk 24 [(1, .one (.pl [(1, 0)] 0 0)), (2, .one (.pl [(2, 0)] 0 0)), (3, .one (.pl [(3, 0)] 0 0))] [(1, [.bx [iC p.kind, sC p.key, sC p.val, sC p.range.lo, sC p.range.hi, iC p.most, bC p.back]]), (2, [.bx [iC 0, sC ((⟨#[]⟩ : ByteArray)), sC ((⟨#[]⟩ : ByteArray)), sC ((⟨#[]⟩ : ByteArray)), sC ((⟨#[]⟩ : ByteArray)), iC 0, bC false]]), (3, [.bx [iC p.kind, sC p.key, sC ((⟨#[]⟩ : ByteArray)), sC ((⟨#[]⟩ : ByteArray)), sC ((⟨#[]⟩ : ByteArray)), iC 0, bC false]])]) (by kernel_rfl) ?_
    refine a_seq ?_
    refine a_run [1, 2, 3] tyOK (st1 := mk 24 [(1, .one (.pl [(1, 0)] 0 0)), (2, .one (.pl [(2, 0)] 0 0)), (3, .one (.pl [(3, 0)] 0 0))] [(1, [.bx [iC p.kind, sC p.key, sC p.val, sC p.range.lo, sC p.range.hi, iC p.most, bC p.back]]), (2, [.bx [iC 0, sC ((⟨#[]⟩ : ByteArray)), sC ((⟨#[]⟩ : ByteArray)), sC ((⟨#[]⟩ : ByteArray)), sC ((⟨#[]⟩ : ByteArray)), iC 0, bC false]]), (3, [.bx [iC p.kind, sC p.key, sC p.val, sC ((⟨#[]⟩ : ByteArray)), sC ((⟨#[]⟩ : ByteArray)), iC 0, bC false]])]) (by kernel_rfl) ?_
    refine a_seq ?_
    refine a_ops [0, 1, 2, 3, 4] (by kernel_rfl) ?_
    refine ao_some [0, 1] [2, 3, 4] [1, 2, 3, 14] tyOK (st1 := mk 24 [(1, .one (.pl [(1, 0)] 0 0)), (2, .one (.pl [(2, 0)] 0 0)), (3, .one (.pl [(3, 0)] 0 0)), (14, .agg [.c (sC p.range.lo), .c (sC p.range.hi)])] [(1, [.bx [iC p.kind, sC p.key, sC p.val, sC p.range.lo, sC p.range.hi, iC p.most, bC p.back]]), (2, [.bx [iC 0, sC ((⟨#[]⟩ : ByteArray)), sC ((⟨#[]⟩ : ByteArray)), sC ((⟨#[]⟩ : ByteArray)), sC ((⟨#[]⟩ : ByteArray)), iC 0, bC false]]), (3, [.bx [iC p.kind, sC p.key, sC p.val, sC ((⟨#[]⟩ : ByteArray)), sC ((⟨#[]⟩ : ByteArray)), iC 0, bC false]])]) (by kernel_rfl) ?_
    refine ao_enter (f := 39) (d := 15) (A := [.agg [.c (sC p.range.lo), .c (sC p.range.hi)]]) (st1 := mk 24 [(1, .one (.pl [(1, 0)] 0 0)), (2, .one (.pl [(2, 0)] 0 0)), (3, .one (.pl [(3, 0)] 0 0)), (15, .agg [.c (sC ((toRange p.range).lo)), .c (sC ((toRange p.range).hi))])] [(1, [.bx [iC p.kind, sC p.key, sC p.val, sC p.range.lo, sC p.range.hi, iC p.most, bC p.back]]), (2, [.bx [iC 0, sC ((⟨#[]⟩ : ByteArray)), sC ((⟨#[]⟩ : ByteArray)), sC ((⟨#[]⟩ : ByteArray)), sC ((⟨#[]⟩ : ByteArray)), iC 0, bC false]]), (3, [.bx [iC p.kind, sC p.key, sC p.val, sC ((⟨#[]⟩ : ByteArray)), sC ((⟨#[]⟩ : ByteArray)), iC 0, bC false]])]) [1, 2, 3, 15] (ok39 p.range) Try.call39 (by kernel_rfl) (by kernel_rfl) (by kernel_rfl) ?_
    refine ao_some [3, 4] [] [1, 2, 3] tyOK (st1 := mk 24 [(1, .one (.pl [(1, 0)] 0 0)), (2, .one (.pl [(2, 0)] 0 0)), (3, .one (.pl [(3, 0)] 0 0))] [(1, [.bx [iC p.kind, sC p.key, sC p.val, sC p.range.lo, sC p.range.hi, iC p.most, bC p.back]]), (2, [.bx [iC 0, sC ((⟨#[]⟩ : ByteArray)), sC ((⟨#[]⟩ : ByteArray)), sC ((⟨#[]⟩ : ByteArray)), sC ((⟨#[]⟩ : ByteArray)), iC 0, bC false]]), (3, [.bx [iC p.kind, sC p.key, sC p.val, sC ((toRange p.range).lo), sC ((toRange p.range).hi), iC 0, bC false]])]) (by kernel_rfl) ?_
    refine ao_nil ?_
    refine a_seq ?_
    refine a_run [1, 2, 3] tyOK (st1 := mk 24 [(1, .one (.pl [(1, 0)] 0 0)), (2, .one (.pl [(2, 0)] 0 0)), (3, .one (.pl [(3, 0)] 0 0))] [(1, [.bx [iC p.kind, sC p.key, sC p.val, sC p.range.lo, sC p.range.hi, iC p.most, bC p.back]]), (2, [.bx [iC 0, sC ((⟨#[]⟩ : ByteArray)), sC ((⟨#[]⟩ : ByteArray)), sC ((⟨#[]⟩ : ByteArray)), sC ((⟨#[]⟩ : ByteArray)), iC 0, bC false]]), (3, [.bx [iC p.kind, sC p.key, sC p.val, sC ((toRange p.range).lo), sC ((toRange p.range).hi), iC p.most, bC false]])]) (by kernel_rfl) ?_
    refine a_seq ?_
    refine a_run [2, 3] tyOK (st1 := mk 24 [(2, .one (.pl [(2, 0)] 0 0)), (3, .one (.pl [(3, 0)] 0 0))] [(2, [.bx [iC 0, sC ((⟨#[]⟩ : ByteArray)), sC ((⟨#[]⟩ : ByteArray)), sC ((⟨#[]⟩ : ByteArray)), sC ((⟨#[]⟩ : ByteArray)), iC 0, bC false]]), (3, [.bx [iC p.kind, sC p.key, sC p.val, sC ((toRange p.range).lo), sC ((toRange p.range).hi), iC p.most, bC p.back]])]) (by kernel_rfl) ?_
    refine a_seq ?_
    refine a_run [2] tyOK (st1 := mk 24 [(2, .one (.pl [(2, 0)] 0 0))] [(2, [.bx [iC p.kind, sC p.key, sC p.val, sC ((toRange p.range).lo), sC ((toRange p.range).hi), iC p.most, bC p.back]])]) (by kernel_rfl) ?_
    refine a_ret ?_
    have e : toAsk p = (⟨p.kind, p.key, p.val, toRange p.range, p.most, p.back⟩ : Ask) := by rw [toAsk]
    exact end_eq (res' := .agg [.c (iC p.kind), .c (sC p.key), .c (sC p.val), .c (sC ((toRange p.range).lo)), .c (sC ((toRange p.range).hi)), .c (iC p.most), .c (bC p.back)]) (by kernel_rfl) (by rw [e] <;> rfl)



def toCall (p : CallR) : CallR := (⟨p.kind, toAsk p.ask⟩ : CallR)
/-- laws.toCall -/
theorem ok16 (p : CallR) : CallOK Try.prog 16 [.agg [.c (iC p.kind), .c (iC p.ask.kind), .c (sC p.ask.key), .c (sC p.ask.val), .c (sC p.ask.range.lo), .c (sC p.ask.range.hi), .c (iC p.ask.most), .c (bC p.ask.back)]] (.agg [.c (iC ((toCall p).kind)), .c (iC (((toCall p).ask).kind)), .c (sC (((toCall p).ask).key)), .c (sC (((toCall p).ask).val)), .c (sC ((((toCall p).ask).range).lo)), .c (sC ((((toCall p).ask).range).hi)), .c (iC (((toCall p).ask).most)), .c (bC (((toCall p).ask).back))]) [] :=
  callOK tyOK Try.func16 rfl fun w S hS => by
    refine a_seq ?_
    refine a_run [1, 2] tyOK (st1 := mk 12 [(1, .one (.pl [(1, 0)] 0 0)), (2, .one (.pl [(2, 0)] 0 0))] [(1, [.bx [iC p.kind, iC p.ask.kind, sC p.ask.key, sC p.ask.val, sC p.ask.range.lo, sC p.ask.range.hi, iC p.ask.most, bC p.ask.back]]), (2, [.bx [iC 0, iC 0, sC ((⟨#[]⟩ : ByteArray)), sC ((⟨#[]⟩ : ByteArray)), sC ((⟨#[]⟩ : ByteArray)), sC ((⟨#[]⟩ : ByteArray)), iC 0, bC false]])]) (by kernel_rfl) ?_
    refine a_seq ?_
    refine a_run [1, 2, 3] tyOK (st1 := mk 12 [(1, .one (.pl [(1, 0)] 0 0)), (2, .one (.pl [(2, 0)] 0 0)), (3, .one (.pl [(3, 0)] 0 0))] [(1, [.bx [iC p.kind, iC p.ask.kind, sC p.ask.key, sC p.ask.val, sC p.ask.range.lo, sC p.ask.range.hi, iC p.ask.most, bC p.ask.back]]), (2, [.bx [iC 0, iC 0, sC ((⟨#[]⟩ : ByteArray)), sC ((⟨#[]⟩ : ByteArray)), sC ((⟨#[]⟩ : ByteArray)), sC ((⟨#[]⟩ : ByteArray)), iC 0, bC false]]), (3, [.bx [iC 0, iC 0, sC ((⟨#[]⟩ : ByteArray)), sC ((⟨#[]⟩ : ByteArray)), sC ((⟨#[]⟩ : ByteArray)), sC ((⟨#[]⟩ : ByteArray)), iC 0, bC false]])]) (by kernel_rfl) ?_
    refine a_seq ?_
    refine a_run [1, 2, 3] tyOK (st1 := mk 12 [(1, .one (.pl [(1, 0)] 0 0)), (2, .one (.pl [(2, 0)] 0 0)), (3, .one (.pl [(3, 0)] 0 0))] [(1, [.bx [iC p.kind, iC p.ask.kind, sC p.ask.key, sC p.ask.val, sC p.ask.range.lo, sC p.ask.range.hi, iC p.ask.most, bC p.ask.back]]), (2, [.bx [iC 0, iC 0, sC ((⟨#[]⟩ : ByteArray)), sC ((⟨#[]⟩ : ByteArray)), sC ((⟨#[]⟩ : ByteArray)), sC ((⟨#[]⟩ : ByteArray)), iC 0, bC false]]), (3, [.bx [iC p.kind, iC 0, sC ((⟨#[]⟩ : ByteArray)), sC ((⟨#[]⟩ : ByteArray)), sC ((⟨#[]⟩ : ByteArray)), sC ((⟨#[]⟩ : ByteArray)), iC 0, bC false]])]) (by kernel_rfl) ?_
    refine a_seq ?_
    refine a_ops [0, 1, 2, 3, 4] (by kernel_rfl) ?_
    refine ao_some [0, 1] [2, 3, 4] [2, 3, 8] tyOK (st1 := mk 12 [(2, .one (.pl [(2, 0)] 0 0)), (3, .one (.pl [(3, 0)] 0 0)), (8, .agg [.c (iC p.ask.kind), .c (sC p.ask.key), .c (sC p.ask.val), .c (sC p.ask.range.lo), .c (sC p.ask.range.hi), .c (iC p.ask.most), .c (bC p.ask.back)])] [(2, [.bx [iC 0, iC 0, sC ((⟨#[]⟩ : ByteArray)), sC ((⟨#[]⟩ : ByteArray)), sC ((⟨#[]⟩ : ByteArray)), sC ((⟨#[]⟩ : ByteArray)), iC 0, bC false]]), (3, [.bx [iC p.kind, iC 0, sC ((⟨#[]⟩ : ByteArray)), sC ((⟨#[]⟩ : ByteArray)), sC ((⟨#[]⟩ : ByteArray)), sC ((⟨#[]⟩ : ByteArray)), iC 0, bC false]])]) (by kernel_rfl) ?_
    refine ao_enter (f := 27) (d := 9) (A := [.agg [.c (iC p.ask.kind), .c (sC p.ask.key), .c (sC p.ask.val), .c (sC p.ask.range.lo), .c (sC p.ask.range.hi), .c (iC p.ask.most), .c (bC p.ask.back)]]) (st1 := mk 12 [(2, .one (.pl [(2, 0)] 0 0)), (3, .one (.pl [(3, 0)] 0 0)), (9, .agg [.c (iC ((toAsk p.ask).kind)), .c (sC ((toAsk p.ask).key)), .c (sC ((toAsk p.ask).val)), .c (sC (((toAsk p.ask).range).lo)), .c (sC (((toAsk p.ask).range).hi)), .c (iC ((toAsk p.ask).most)), .c (bC ((toAsk p.ask).back))])] [(2, [.bx [iC 0, iC 0, sC ((⟨#[]⟩ : ByteArray)), sC ((⟨#[]⟩ : ByteArray)), sC ((⟨#[]⟩ : ByteArray)), sC ((⟨#[]⟩ : ByteArray)), iC 0, bC false]]), (3, [.bx [iC p.kind, iC 0, sC ((⟨#[]⟩ : ByteArray)), sC ((⟨#[]⟩ : ByteArray)), sC ((⟨#[]⟩ : ByteArray)), sC ((⟨#[]⟩ : ByteArray)), iC 0, bC false]])]) [2, 3, 9] (ok27 p.ask) Try.call27 (by kernel_rfl) (by kernel_rfl) (by kernel_rfl) ?_
    refine ao_some [3, 4] [] [2, 3] tyOK (st1 := mk 12 [(2, .one (.pl [(2, 0)] 0 0)), (3, .one (.pl [(3, 0)] 0 0))] [(2, [.bx [iC 0, iC 0, sC ((⟨#[]⟩ : ByteArray)), sC ((⟨#[]⟩ : ByteArray)), sC ((⟨#[]⟩ : ByteArray)), sC ((⟨#[]⟩ : ByteArray)), iC 0, bC false]]), (3, [.bx [iC p.kind, iC ((toAsk p.ask).kind), sC ((toAsk p.ask).key), sC ((toAsk p.ask).val), sC (((toAsk p.ask).range).lo), sC (((toAsk p.ask).range).hi), iC ((toAsk p.ask).most), bC ((toAsk p.ask).back)]])]) (by kernel_rfl) ?_
    refine ao_nil ?_
    refine a_seq ?_
    refine a_run [2] tyOK (st1 := mk 12 [(2, .one (.pl [(2, 0)] 0 0))] [(2, [.bx [iC p.kind, iC ((toAsk p.ask).kind), sC ((toAsk p.ask).key), sC ((toAsk p.ask).val), sC (((toAsk p.ask).range).lo), sC (((toAsk p.ask).range).hi), iC ((toAsk p.ask).most), bC ((toAsk p.ask).back)]])]) (by kernel_rfl) ?_
    refine a_ret ?_
    have e : toCall p = (⟨p.kind, toAsk p.ask⟩ : CallR) := by rw [toCall]
    exact end_eq (res' := .agg [.c (iC p.kind), .c (iC ((toAsk p.ask).kind)), .c (sC ((toAsk p.ask).key)), .c (sC ((toAsk p.ask).val)), .c (sC (((toAsk p.ask).range).lo)), .c (sC (((toAsk p.ask).range).hi)), .c (iC ((toAsk p.ask).most)), .c (bC ((toAsk p.ask).back))]) (by kernel_rfl) (by rw [e] <;> rfl)


def toIntS (xs : List Int) : List Int := xs

structure L15_1 (xs : (List Int)) where
  k : Nat
  inv : k ≤ xs.length

/-- laws.toIntS -/
theorem ok15 (xs : (List Int)) (hn : xs.length * 8 ≤ 140737488351232) : CallOK Try.prog 15 [.one (.c (.sl 1 ((xs).map eInt)))] (.one (.c (.sl 1 ((toIntS xs).map eInt)))) [] :=
  callOK tyOK Try.func15 rfl fun w S hS => by
    refine a_seq ?_
    refine a_run [0] tyOK (st1 := mk 22 [(0, .one (.c (.sl 1 ((xs).map eInt))))] []) (by kernel_rfl) ?_
    refine a_seq ?_
    refine a_ops [0, 1, 2, 3] (by kernel_rfl) ?_
    refine ao_some [0, 1] [2, 3] [0, 6] tyOK (st1 := mk 22 [(0, .one (.c (.sl 1 ((xs).map eInt)))), (6, iV (((((xs).map eInt).length : Nat) : Int)))] []) (by kernel_rfl) ?_
    refine ao_make (d := 7) (size := 1) (bytes := 8) (n := ((((xs).map eInt).length : Nat) : Int)) (c := ((((xs).map eInt).length : Nat) : Int)) (z := [iC 0]) (rows' := fill (fun x => (eInt x).map frzC) [iC 0] xs 0) (st1 := mk 22 [(0, .one (.c (.sl 1 ((xs).map eInt)))), (7, .one (.so [] 7 0 (((xs).map eInt).length)))] [(7, [.sl 1 (fill (fun x => (eInt x).map frzC) [iC 0] xs 0)])]) [0, 7] tyOK (by kernel_rfl) rfl (by omega) (by simp; omega) (by kernel_rfl) (by rw [← fill_zero]; simp) (by kernel_rfl) ?_
    refine ao_some [3] [] [0, 3] tyOK (st1 := mk 22 [(0, .one (.c (.sl 1 ((xs).map eInt)))), (3, .one (.so [] 7 0 (((xs).map eInt).length)))] [(7, [.sl 1 (fill (fun x => (eInt x).map frzC) [iC 0] xs 0)])]) (by kernel_rfl) ?_
    refine ao_nil ?_
    refine a_seq ?_
    refine a_seq ?_
    refine a_run [0, 3, 4] tyOK (st1 := mk 22 [(0, .one (.c (.sl 1 ((xs).map eInt)))), (3, .one (.so [] 7 0 (((xs).map eInt).length))), (4, iV 0)] [(7, [.sl 1 (fill (fun x => (eInt x).map frzC) [iC 0] xs 0)])]) (by kernel_rfl) ?_
    refine a_block ?_
    refine a_keep [0, 3, 4] ?_
    refine a_loop (ι := L15_1 xs) (fun ⟨k, _⟩ => mk 22 [(0, .one (.c (.sl 1 ((xs).map eInt)))), (3, .one (.so [] 7 0 (((xs).map eInt).length))), (4, iV (((k : Nat) : Int)))] [(7, [.sl 1 (fill (fun x => (eInt x).map frzC) [iC 0] xs k)])]) (fun ⟨k, _⟩ => xs.length - k) ⟨0, Nat.zero_le _⟩ (by kernel_rfl) ?_
    rintro ⟨k, hI⟩
    have hk := hI
    show AWp _ _ _ _ (mk 22 [(0, .one (.c (.sl 1 ((xs).map eInt)))), (3, .one (.so [] 7 0 (((xs).map eInt).length))), (4, iV (((k : Nat) : Int)))] [(7, [.sl 1 (fill (fun x => (eInt x).map frzC) [iC 0] xs k)])])
    refine a_seq ?_
    refine a_seq ?_
    refine a_run [0, 3, 4, 11] tyOK (st1 := mk 22 [(0, .one (.c (.sl 1 ((xs).map eInt)))), (3, .one (.so [] 7 0 (((xs).map eInt).length))), (4, iV (((k : Nat) : Int))), (11, bV (decide ((((k : Nat) : Int)) < (((((xs).map eInt).length : Nat) : Int)))))] [(7, [.sl 1 (fill (fun x => (eInt x).map frzC) [iC 0] xs k)])]) (by kernel_rfl) ?_
    refine a_cond (b := decide ((((k : Nat) : Int)) < (((((xs).map eInt).length : Nat) : Int)))) (by kernel_rfl) (fun h1 => ?_) (fun h1 => ?_)
    · have g1 := h1
      try simp only [decide_eq_true_eq, decide_eq_false_iff_not, List.length_map] at g1
      refine a_skip ?_
      refine a_seq ?_
      refine a_block ?_
      refine a_ops [0, 1, 2, 3, 4, 5, 6, 7] (by kernel_rfl) ?_
      refine ao_some [0, 1, 2, 3] [4, 5, 6, 7] [0, 3, 4, 14, 15, 16, 17] tyOK (st1 := mk 22 [(0, .one (.c (.sl 1 ((xs).map eInt)))), (3, .one (.so [] 7 0 (((xs).map eInt).length))), (4, iV (((k : Nat) : Int))), (14, .one (.so [] 7 0 (((xs).map eInt).length))), (15, iV (((k : Nat) : Int))), (16, .one (.c (.sl 1 ((xs).map eInt)))), (17, iV (((k : Nat) : Int)))] [(7, [.sl 1 (fill (fun x => (eInt x).map frzC) [iC 0] xs k)])]) (by kernel_rfl) ?_
      have p1 : 0 ≤ (((k : Nat) : Int)) ∧ (((k : Nat) : Int)).toNat < (xs).length := by first | omega | (rw [mv_wrap (by omega) (by omega)]; omega)
      obtain ⟨x1, q1⟩ : ∃ x, (xs)[(((k : Nat) : Int)).toNat]? = some x := ⟨_, List.getElem?_eq_getElem p1.2⟩
      have r1 := q1
      try simp only [Int.toNat_natCast] at r1
      refine ao_index (d := 18) (size := 1) (n := ((k : Nat) : Int)) (rows := (xs).map eInt) (st1 := mk 22 [(0, .one (.c (.sl 1 ((xs).map eInt)))), (3, .one (.so [] 7 0 (((xs).map eInt).length))), (4, iV (((k : Nat) : Int))), (14, .one (.so [] 7 0 (((xs).map eInt).length))), (15, iV (((k : Nat) : Int))), (18, .one (.fp [iC x1] 0))] [(7, [.sl 1 (fill (fun x => (eInt x).map frzC) [iC 0] xs k)])]) (eInt x1) [0, 3, 4, 14, 15, 18] tyOK (by kernel_rfl) p1.1 (by rw [List.getElem?_map, q1]; rfl) (by kernel_rfl) (by kernel_rfl) ?_
      refine ao_some [5] [6, 7] [0, 3, 4, 14, 15, 19] tyOK (st1 := mk 22 [(0, .one (.c (.sl 1 ((xs).map eInt)))), (3, .one (.so [] 7 0 (((xs).map eInt).length))), (4, iV (((k : Nat) : Int))), (14, .one (.so [] 7 0 (((xs).map eInt).length))), (15, iV (((k : Nat) : Int))), (19, iV x1)] [(7, [.sl 1 (fill (fun x => (eInt x).map frzC) [iC 0] xs k)])]) (by kernel_rfl) ?_
      refine ao_indexOwn (d := 20) (size := 1) (n0 := (((xs).map eInt).length)) (n := ((k : Nat) : Int)) (p := [(7, 0)]) (rows := fill (fun x => (eInt x).map frzC) [iC 0] xs k) (st1 := mk 22 [(0, .one (.c (.sl 1 ((xs).map eInt)))), (3, .one (.so [] 7 0 (((xs).map eInt).length))), (4, iV (((k : Nat) : Int))), (19, iV x1), (20, .one (.pl [(7, 0)] k 0))] [(7, [.sl 1 (fill (fun x => (eInt x).map frzC) [iC 0] xs k)])]) [iC 0] [0, 3, 4, 19, 20] tyOK (by kernel_rfl) (by simp; omega) (by exact fill_get (by omega)) (by kernel_rfl) (by kernel_rfl) ?_
      refine ao_storeOwn (n := k) (size := 1) (q := [(7, 0)]) (rows := fill (fun x => (eInt x).map frzC) [iC 0] xs k) (rows' := fill (fun x => (eInt x).map frzC) [iC 0] xs (k + 1)) (szs := []) (ts := [.c (iC x1)]) (t1 := (mk 22 [(0, .one (.c (.sl 1 ((xs).map eInt)))), (3, .one (.so [] 7 0 (((xs).map eInt).length))), (4, iV (((k : Nat) : Int))), (19, iV x1), (20, .one (.pl [(7, 0)] k 0))] [(7, [.sl 1 (fill (fun x => (eInt x).map frzC) [iC 0] xs k)])]).t) (st1 := mk 22 [(0, .one (.c (.sl 1 ((xs).map eInt)))), (3, .one (.so [] 7 0 (((xs).map eInt).length))), (4, iV (((k : Nat) : Int)))] [(7, [.sl 1 (fill (fun x => (eInt x).map frzC) [iC 0] xs (k + 1))])]) [iC 0] [0, 3, 4] tyOK (by kernel_rfl) (by exact fill_get (by omega)) (by kernel_rfl) (by kernel_rfl) (by exact fill_set r1) (by kernel_rfl) ?_
      refine ao_nil ?_
      refine a_run [0, 3, 4] tyOK (st1 := mk 22 [(0, .one (.c (.sl 1 ((xs).map eInt)))), (3, .one (.so [] 7 0 (((xs).map eInt).length))), (4, iV (IntKind.wrap .i64 ((((k : Nat) : Int)) + 1)))] [(7, [.sl 1 (fill (fun x => (eInt x).map frzC) [iC 0] xs (k + 1))])]) (by kernel_rfl) ?_
      refine ⟨⟨(k + 1), ?_⟩, ?_, ?_⟩
      · omega
      · exact (show _ = mk 22 [(0, .one (.c (.sl 1 ((xs).map eInt)))), (3, .one (.so [] 7 0 (((xs).map eInt).length))), (4, iV (IntKind.wrap .i64 ((((k : Nat) : Int)) + 1)))] [(7, [.sl 1 (fill (fun x => (eInt x).map frzC) [iC 0] xs (k + 1))])] by kernel_rfl).trans (by rw [mv_wrap (by omega) (by omega)]; rfl)
      · dsimp only; omega
    · have g1 := h1
      try simp only [decide_eq_true_eq, decide_eq_false_iff_not, List.length_map] at g1
      refine a_exit ?_
      refine a_seq ?_
      refine a_run [2] tyOK (st1 := mk 22 [(2, .one (.so [] 7 0 (((xs).map eInt).length)))] [(7, [.sl 1 (fill (fun x => (eInt x).map frzC) [iC 0] xs k)])]) (by kernel_rfl) ?_
      refine a_freezeAt (fun _ _ h => h) [] 7 0 2 [2] (n := (((xs).map eInt).length)) (rs := fill (fun x => (eInt x).map frzC) [iC 0] xs k) (st1 := mk 22 [(2, .one (.c (.sl 1 (fill (fun x => (eInt x).map frzC) [iC 0] xs k))))] []) (by kernel_rfl) (by rw [fill_all (by omega)]; simp) ?_
      rw [fill_all (by omega)]
      refine a_imp (k := 2) (c' := .sl 1 ((xs).map eInt)) (st1 := mk 22 [(2, .one (.c (.sl 1 ((xs).map eInt))))] []) (imp_copy _ _ _) (by kernel_rfl) (by kernel_rfl) ?_
      refine a_ret ?_
      have e : toIntS xs = xs := by
          rw [toIntS]
      exact end_eq (res' := .one (.c (.sl 1 ((xs).map eInt)))) (by kernel_rfl) (by rw [e] <;> rfl)



def toStep (p : Step) : Step := (⟨p.kind, p.a, p.b, toIntS p.keep, toCall p.call⟩ : Step)
/-- laws.toStep -/
theorem ok6 (p : Step) (hp : okStep p) : CallOK Try.prog 6 [.agg [.c (iC p.kind), .c (iC p.a), .c (iC p.b), .c (.sl 1 ((p.keep).map eInt)), .c (iC p.call.kind), .c (iC p.call.ask.kind), .c (sC p.call.ask.key), .c (sC p.call.ask.val), .c (sC p.call.ask.range.lo), .c (sC p.call.ask.range.hi), .c (iC p.call.ask.most), .c (bC p.call.ask.back)]] (.agg [.c (iC ((toStep p).kind)), .c (iC ((toStep p).a)), .c (iC ((toStep p).b)), .c (.sl 1 (((toStep p).keep).map eInt)), .c (iC (((toStep p).call).kind)), .c (iC ((((toStep p).call).ask).kind)), .c (sC ((((toStep p).call).ask).key)), .c (sC ((((toStep p).call).ask).val)), .c (sC (((((toStep p).call).ask).range).lo)), .c (sC (((((toStep p).call).ask).range).hi)), .c (iC ((((toStep p).call).ask).most)), .c (bC ((((toStep p).call).ask).back))]) [] :=
  callOK tyOK Try.func6 rfl fun w S hS => by
    refine a_seq ?_
    refine a_run [1, 2] tyOK (st1 := mk 22 [(1, .one (.pl [(1, 0)] 0 0)), (2, .one (.pl [(2, 0)] 0 0))] [(1, [.bx [iC p.kind, iC p.a, iC p.b, .fz (.sl 1 ((p.keep).map eInt)), iC p.call.kind, iC p.call.ask.kind, sC p.call.ask.key, sC p.call.ask.val, sC p.call.ask.range.lo, sC p.call.ask.range.hi, iC p.call.ask.most, bC p.call.ask.back]]), (2, [.bx [iC 0, iC 0, iC 0, .sl 1 ([]), iC 0, iC 0, sC ((⟨#[]⟩ : ByteArray)), sC ((⟨#[]⟩ : ByteArray)), sC ((⟨#[]⟩ : ByteArray)), sC ((⟨#[]⟩ : ByteArray)), iC 0, bC false]])]) (by kernel_rfl) ?_
    refine a_seq ?_
    refine a_run [1, 2, 3] tyOK (st1 := mk 22 [(1, .one (.pl [(1, 0)] 0 0)), (2, .one (.pl [(2, 0)] 0 0)), (3, .one (.pl [(3, 0)] 0 0))] [(1, [.bx [iC p.kind, iC p.a, iC p.b, .fz (.sl 1 ((p.keep).map eInt)), iC p.call.kind, iC p.call.ask.kind, sC p.call.ask.key, sC p.call.ask.val, sC p.call.ask.range.lo, sC p.call.ask.range.hi, iC p.call.ask.most, bC p.call.ask.back]]), (2, [.bx [iC 0, iC 0, iC 0, .sl 1 ([]), iC 0, iC 0, sC ((⟨#[]⟩ : ByteArray)), sC ((⟨#[]⟩ : ByteArray)), sC ((⟨#[]⟩ : ByteArray)), sC ((⟨#[]⟩ : ByteArray)), iC 0, bC false]]), (3, [.bx [iC 0, iC 0, iC 0, .sl 1 ([]), iC 0, iC 0, sC ((⟨#[]⟩ : ByteArray)), sC ((⟨#[]⟩ : ByteArray)), sC ((⟨#[]⟩ : ByteArray)), sC ((⟨#[]⟩ : ByteArray)), iC 0, bC false]])]) (by kernel_rfl) ?_
    refine a_seq ?_
    refine a_run [1, 2, 3] tyOK (st1 := mk 22 [(1, .one (.pl [(1, 0)] 0 0)), (2, .one (.pl [(2, 0)] 0 0)), (3, .one (.pl [(3, 0)] 0 0))] [(1, [.bx [iC p.kind, iC p.a, iC p.b, .fz (.sl 1 ((p.keep).map eInt)), iC p.call.kind, iC p.call.ask.kind, sC p.call.ask.key, sC p.call.ask.val, sC p.call.ask.range.lo, sC p.call.ask.range.hi, iC p.call.ask.most, bC p.call.ask.back]]), (2, [.bx [iC 0, iC 0, iC 0, .sl 1 ([]), iC 0, iC 0, sC ((⟨#[]⟩ : ByteArray)), sC ((⟨#[]⟩ : ByteArray)), sC ((⟨#[]⟩ : ByteArray)), sC ((⟨#[]⟩ : ByteArray)), iC 0, bC false]]), (3, [.bx [iC p.kind, iC 0, iC 0, .sl 1 ([]), iC 0, iC 0, sC ((⟨#[]⟩ : ByteArray)), sC ((⟨#[]⟩ : ByteArray)), sC ((⟨#[]⟩ : ByteArray)), sC ((⟨#[]⟩ : ByteArray)), iC 0, bC false]])]) (by kernel_rfl) ?_
    refine a_seq ?_
    refine a_run [1, 2, 3] tyOK (st1 := mk 22 [(1, .one (.pl [(1, 0)] 0 0)), (2, .one (.pl [(2, 0)] 0 0)), (3, .one (.pl [(3, 0)] 0 0))] [(1, [.bx [iC p.kind, iC p.a, iC p.b, .fz (.sl 1 ((p.keep).map eInt)), iC p.call.kind, iC p.call.ask.kind, sC p.call.ask.key, sC p.call.ask.val, sC p.call.ask.range.lo, sC p.call.ask.range.hi, iC p.call.ask.most, bC p.call.ask.back]]), (2, [.bx [iC 0, iC 0, iC 0, .sl 1 ([]), iC 0, iC 0, sC ((⟨#[]⟩ : ByteArray)), sC ((⟨#[]⟩ : ByteArray)), sC ((⟨#[]⟩ : ByteArray)), sC ((⟨#[]⟩ : ByteArray)), iC 0, bC false]]), (3, [.bx [iC p.kind, iC p.a, iC 0, .sl 1 ([]), iC 0, iC 0, sC ((⟨#[]⟩ : ByteArray)), sC ((⟨#[]⟩ : ByteArray)), sC ((⟨#[]⟩ : ByteArray)), sC ((⟨#[]⟩ : ByteArray)), iC 0, bC false]])]) (by kernel_rfl) ?_
    refine a_seq ?_
    refine a_run [1, 2, 3] tyOK (st1 := mk 22 [(1, .one (.pl [(1, 0)] 0 0)), (2, .one (.pl [(2, 0)] 0 0)), (3, .one (.pl [(3, 0)] 0 0))] [(1, [.bx [iC p.kind, iC p.a, iC p.b, .fz (.sl 1 ((p.keep).map eInt)), iC p.call.kind, iC p.call.ask.kind, sC p.call.ask.key, sC p.call.ask.val, sC p.call.ask.range.lo, sC p.call.ask.range.hi, iC p.call.ask.most, bC p.call.ask.back]]), (2, [.bx [iC 0, iC 0, iC 0, .sl 1 ([]), iC 0, iC 0, sC ((⟨#[]⟩ : ByteArray)), sC ((⟨#[]⟩ : ByteArray)), sC ((⟨#[]⟩ : ByteArray)), sC ((⟨#[]⟩ : ByteArray)), iC 0, bC false]]), (3, [.bx [iC p.kind, iC p.a, iC p.b, .sl 1 ([]), iC 0, iC 0, sC ((⟨#[]⟩ : ByteArray)), sC ((⟨#[]⟩ : ByteArray)), sC ((⟨#[]⟩ : ByteArray)), sC ((⟨#[]⟩ : ByteArray)), iC 0, bC false]])]) (by kernel_rfl) ?_
    refine a_seq ?_
    refine a_ops [0, 1, 2, 3, 4] (by kernel_rfl) ?_
    refine ao_some [0, 1] [2, 3, 4] [1, 2, 3, 14] tyOK (st1 := mk 22 [(1, .one (.pl [(1, 0)] 0 0)), (2, .one (.pl [(2, 0)] 0 0)), (3, .one (.pl [(3, 0)] 0 0)), (14, .one (.c (.sl 1 ((p.keep).map eInt))))] [(1, [.bx [iC p.kind, iC p.a, iC p.b, .fz (.sl 1 ((p.keep).map eInt)), iC p.call.kind, iC p.call.ask.kind, sC p.call.ask.key, sC p.call.ask.val, sC p.call.ask.range.lo, sC p.call.ask.range.hi, iC p.call.ask.most, bC p.call.ask.back]]), (2, [.bx [iC 0, iC 0, iC 0, .sl 1 ([]), iC 0, iC 0, sC ((⟨#[]⟩ : ByteArray)), sC ((⟨#[]⟩ : ByteArray)), sC ((⟨#[]⟩ : ByteArray)), sC ((⟨#[]⟩ : ByteArray)), iC 0, bC false]]), (3, [.bx [iC p.kind, iC p.a, iC p.b, .sl 1 ([]), iC 0, iC 0, sC ((⟨#[]⟩ : ByteArray)), sC ((⟨#[]⟩ : ByteArray)), sC ((⟨#[]⟩ : ByteArray)), sC ((⟨#[]⟩ : ByteArray)), iC 0, bC false]])]) (by kernel_rfl) ?_
    refine ao_enter (f := 15) (d := 15) (A := [.one (.c (.sl 1 ((p.keep).map eInt)))]) (st1 := mk 22 [(1, .one (.pl [(1, 0)] 0 0)), (2, .one (.pl [(2, 0)] 0 0)), (3, .one (.pl [(3, 0)] 0 0)), (15, .one (.c (.sl 1 ((toIntS p.keep).map eInt))))] [(1, [.bx [iC p.kind, iC p.a, iC p.b, .fz (.sl 1 ((p.keep).map eInt)), iC p.call.kind, iC p.call.ask.kind, sC p.call.ask.key, sC p.call.ask.val, sC p.call.ask.range.lo, sC p.call.ask.range.hi, iC p.call.ask.most, bC p.call.ask.back]]), (2, [.bx [iC 0, iC 0, iC 0, .sl 1 ([]), iC 0, iC 0, sC ((⟨#[]⟩ : ByteArray)), sC ((⟨#[]⟩ : ByteArray)), sC ((⟨#[]⟩ : ByteArray)), sC ((⟨#[]⟩ : ByteArray)), iC 0, bC false]]), (3, [.bx [iC p.kind, iC p.a, iC p.b, .sl 1 ([]), iC 0, iC 0, sC ((⟨#[]⟩ : ByteArray)), sC ((⟨#[]⟩ : ByteArray)), sC ((⟨#[]⟩ : ByteArray)), sC ((⟨#[]⟩ : ByteArray)), iC 0, bC false]])]) [1, 2, 3, 15] (ok15 p.keep (hp.1)) Try.call15 (by kernel_rfl) (by kernel_rfl) (by kernel_rfl) ?_
    refine ao_some [3, 4] [] [1, 2, 3] tyOK (st1 := mk 22 [(1, .one (.pl [(1, 0)] 0 0)), (2, .one (.pl [(2, 0)] 0 0)), (3, .one (.pl [(3, 0)] 0 0))] [(1, [.bx [iC p.kind, iC p.a, iC p.b, .fz (.sl 1 ((p.keep).map eInt)), iC p.call.kind, iC p.call.ask.kind, sC p.call.ask.key, sC p.call.ask.val, sC p.call.ask.range.lo, sC p.call.ask.range.hi, iC p.call.ask.most, bC p.call.ask.back]]), (2, [.bx [iC 0, iC 0, iC 0, .sl 1 ([]), iC 0, iC 0, sC ((⟨#[]⟩ : ByteArray)), sC ((⟨#[]⟩ : ByteArray)), sC ((⟨#[]⟩ : ByteArray)), sC ((⟨#[]⟩ : ByteArray)), iC 0, bC false]]), (3, [.bx [iC p.kind, iC p.a, iC p.b, .fz (.sl 1 ((toIntS p.keep).map eInt)), iC 0, iC 0, sC ((⟨#[]⟩ : ByteArray)), sC ((⟨#[]⟩ : ByteArray)), sC ((⟨#[]⟩ : ByteArray)), sC ((⟨#[]⟩ : ByteArray)), iC 0, bC false]])]) (by kernel_rfl) ?_
    refine ao_nil ?_
    refine a_seq ?_
    refine a_ops [0, 1, 2, 3, 4] (by kernel_rfl) ?_
    refine ao_some [0, 1] [2, 3, 4] [2, 3, 18] tyOK (st1 := mk 22 [(2, .one (.pl [(2, 0)] 0 0)), (3, .one (.pl [(3, 0)] 0 0)), (18, .agg [.c (iC p.call.kind), .c (iC p.call.ask.kind), .c (sC p.call.ask.key), .c (sC p.call.ask.val), .c (sC p.call.ask.range.lo), .c (sC p.call.ask.range.hi), .c (iC p.call.ask.most), .c (bC p.call.ask.back)])] [(2, [.bx [iC 0, iC 0, iC 0, .sl 1 ([]), iC 0, iC 0, sC ((⟨#[]⟩ : ByteArray)), sC ((⟨#[]⟩ : ByteArray)), sC ((⟨#[]⟩ : ByteArray)), sC ((⟨#[]⟩ : ByteArray)), iC 0, bC false]]), (3, [.bx [iC p.kind, iC p.a, iC p.b, .fz (.sl 1 ((toIntS p.keep).map eInt)), iC 0, iC 0, sC ((⟨#[]⟩ : ByteArray)), sC ((⟨#[]⟩ : ByteArray)), sC ((⟨#[]⟩ : ByteArray)), sC ((⟨#[]⟩ : ByteArray)), iC 0, bC false]])]) (by kernel_rfl) ?_
    refine ao_enter (f := 16) (d := 19) (A := [.agg [.c (iC p.call.kind), .c (iC p.call.ask.kind), .c (sC p.call.ask.key), .c (sC p.call.ask.val), .c (sC p.call.ask.range.lo), .c (sC p.call.ask.range.hi), .c (iC p.call.ask.most), .c (bC p.call.ask.back)]]) (st1 := mk 22 [(2, .one (.pl [(2, 0)] 0 0)), (3, .one (.pl [(3, 0)] 0 0)), (19, .agg [.c (iC ((toCall p.call).kind)), .c (iC (((toCall p.call).ask).kind)), .c (sC (((toCall p.call).ask).key)), .c (sC (((toCall p.call).ask).val)), .c (sC ((((toCall p.call).ask).range).lo)), .c (sC ((((toCall p.call).ask).range).hi)), .c (iC (((toCall p.call).ask).most)), .c (bC (((toCall p.call).ask).back))])] [(2, [.bx [iC 0, iC 0, iC 0, .sl 1 ([]), iC 0, iC 0, sC ((⟨#[]⟩ : ByteArray)), sC ((⟨#[]⟩ : ByteArray)), sC ((⟨#[]⟩ : ByteArray)), sC ((⟨#[]⟩ : ByteArray)), iC 0, bC false]]), (3, [.bx [iC p.kind, iC p.a, iC p.b, .fz (.sl 1 ((toIntS p.keep).map eInt)), iC 0, iC 0, sC ((⟨#[]⟩ : ByteArray)), sC ((⟨#[]⟩ : ByteArray)), sC ((⟨#[]⟩ : ByteArray)), sC ((⟨#[]⟩ : ByteArray)), iC 0, bC false]])]) [2, 3, 19] (ok16 p.call) Try.call16 (by kernel_rfl) (by kernel_rfl) (by kernel_rfl) ?_
    refine ao_some [3, 4] [] [2, 3] tyOK (st1 := mk 22 [(2, .one (.pl [(2, 0)] 0 0)), (3, .one (.pl [(3, 0)] 0 0))] [(2, [.bx [iC 0, iC 0, iC 0, .sl 1 ([]), iC 0, iC 0, sC ((⟨#[]⟩ : ByteArray)), sC ((⟨#[]⟩ : ByteArray)), sC ((⟨#[]⟩ : ByteArray)), sC ((⟨#[]⟩ : ByteArray)), iC 0, bC false]]), (3, [.bx [iC p.kind, iC p.a, iC p.b, .fz (.sl 1 ((toIntS p.keep).map eInt)), iC ((toCall p.call).kind), iC (((toCall p.call).ask).kind), sC (((toCall p.call).ask).key), sC (((toCall p.call).ask).val), sC ((((toCall p.call).ask).range).lo), sC ((((toCall p.call).ask).range).hi), iC (((toCall p.call).ask).most), bC (((toCall p.call).ask).back)]])]) (by kernel_rfl) ?_
    refine ao_nil ?_
    refine a_seq ?_
    refine a_run [2] tyOK (st1 := mk 22 [(2, .one (.pl [(2, 0)] 0 0))] [(2, [.bx [iC p.kind, iC p.a, iC p.b, .fz (.sl 1 ((toIntS p.keep).map eInt)), iC ((toCall p.call).kind), iC (((toCall p.call).ask).kind), sC (((toCall p.call).ask).key), sC (((toCall p.call).ask).val), sC ((((toCall p.call).ask).range).lo), sC ((((toCall p.call).ask).range).hi), iC (((toCall p.call).ask).most), bC (((toCall p.call).ask).back)]])]) (by kernel_rfl) ?_
    refine a_ret ?_
    have e : toStep p = (⟨p.kind, p.a, p.b, toIntS p.keep, toCall p.call⟩ : Step) := by rw [toStep]
    exact end_eq (res' := .agg [.c (iC p.kind), .c (iC p.a), .c (iC p.b), .c (.sl 1 ((toIntS p.keep).map eInt)), .c (iC ((toCall p.call).kind)), .c (iC (((toCall p.call).ask).kind)), .c (sC (((toCall p.call).ask).key)), .c (sC (((toCall p.call).ask).val)), .c (sC ((((toCall p.call).ask).range).lo)), .c (sC ((((toCall p.call).ask).range).hi)), .c (iC (((toCall p.call).ask).most)), .c (bC (((toCall p.call).ask).back))]) (by kernel_rfl) (by rw [e] <;> rfl)



def eqRange (p : Range) (q : Range) : Bool := bif (!(p.lo.toList == q.lo.toList)) then false else (bif (!(p.hi.toList == q.hi.toList)) then false else true)
/-- laws.eqRange -/
theorem ok46 (p : Range) (q : Range) : CallOK Try.prog 46 [.agg [.c (sC p.lo), .c (sC p.hi)], .agg [.c (sC q.lo), .c (sC q.hi)]] (bV (eqRange p q)) [] :=
  callOK tyOK Try.func46 rfl fun w S hS => by
    refine a_seq ?_
    refine a_run [2, 3] tyOK (st1 := mk 15 [(2, .one (.pl [(2, 0)] 0 0)), (3, .one (.pl [(3, 0)] 0 0))] [(2, [.bx [sC p.lo, sC p.hi]]), (3, [.bx [sC q.lo, sC q.hi]])]) (by kernel_rfl) ?_
    refine a_seq ?_
    refine a_seq ?_
    refine a_run [2, 3, 9] tyOK (st1 := mk 15 [(2, .one (.pl [(2, 0)] 0 0)), (3, .one (.pl [(3, 0)] 0 0)), (9, bV (!(p.lo.toList == q.lo.toList)))] [(2, [.bx [sC p.lo, sC p.hi]]), (3, [.bx [sC q.lo, sC q.hi]])]) (by kernel_rfl) ?_
    refine a_cond (b := !(p.lo.toList == q.lo.toList)) (by kernel_rfl) (fun h1 => ?_) (fun h1 => ?_)
    · have g1 := h1
      try simp only [beq_iff_eq, beq_eq_false_iff_ne, Bool.not_eq_true, Bool.not_eq_false, Bool.not_eq_true'] at g1
      refine a_seq ?_
      refine a_run [4] tyOK (st1 := mk 15 [(4, bV false)] []) (by kernel_rfl) ?_
      refine a_ret ?_
      have e : eqRange p q = false := by rw [eqRange]; rw [h1, cond_true]
      exact end_eq (res' := bV false) (by kernel_rfl) (by rw [e] <;> rfl)
    · have g1 := h1
      try simp only [beq_iff_eq, beq_eq_false_iff_ne, Bool.not_eq_true, Bool.not_eq_false, Bool.not_eq_true'] at g1
      refine a_skip ?_
      refine a_seq ?_
      refine a_seq ?_
      refine a_run [14] tyOK (st1 := mk 15 [(14, bV (!(p.hi.toList == q.hi.toList)))] []) (by kernel_rfl) ?_
      refine a_cond (b := !(p.hi.toList == q.hi.toList)) (by kernel_rfl) (fun h2 => ?_) (fun h2 => ?_)
      · have g2 := h2
        try simp only [beq_iff_eq, beq_eq_false_iff_ne, Bool.not_eq_true, Bool.not_eq_false, Bool.not_eq_true'] at g2
        refine a_seq ?_
        refine a_run [4] tyOK (st1 := mk 15 [(4, bV false)] []) (by kernel_rfl) ?_
        refine a_ret ?_
        have e : eqRange p q = false := by rw [eqRange]; rw [h1, cond_false, h2, cond_true]
        exact end_eq (res' := bV false) (by kernel_rfl) (by rw [e] <;> rfl)
      · have g2 := h2
        try simp only [beq_iff_eq, beq_eq_false_iff_ne, Bool.not_eq_true, Bool.not_eq_false, Bool.not_eq_true'] at g2
        refine a_skip ?_
        refine a_seq ?_
        refine a_run [4] tyOK (st1 := mk 15 [(4, bV true)] []) (by kernel_rfl) ?_
        refine a_ret ?_
        have e : eqRange p q = true := by rw [eqRange]; rw [h1, cond_false, h2, cond_false]
        exact end_eq (res' := bV true) (by kernel_rfl) (by rw [e] <;> rfl)



def eqAsk (p : Ask) (q : Ask) : Bool := bif ((p.kind != q.kind)) then false else (bif (!(p.key.toList == q.key.toList)) then false else (bif (!(p.val.toList == q.val.toList)) then false else (bif (!(eqRange p.range q.range)) then false else (bif ((p.most != q.most)) then false else (bif (!(p.back == q.back)) then false else true)))))
/-- laws.eqAsk -/
theorem ok35 (p : Ask) (q : Ask) : CallOK Try.prog 35 [.agg [.c (iC p.kind), .c (sC p.key), .c (sC p.val), .c (sC p.range.lo), .c (sC p.range.hi), .c (iC p.most), .c (bC p.back)], .agg [.c (iC q.kind), .c (sC q.key), .c (sC q.val), .c (sC q.range.lo), .c (sC q.range.hi), .c (iC q.most), .c (bC q.back)]] (bV (eqAsk p q)) [] :=
  callOK tyOK Try.func35 rfl fun w S hS => by
    refine a_seq ?_
    refine a_run [2, 3] tyOK (st1 := mk 36 [(2, .one (.pl [(2, 0)] 0 0)), (3, .one (.pl [(3, 0)] 0 0))] [(2, [.bx [iC p.kind, sC p.key, sC p.val, sC p.range.lo, sC p.range.hi, iC p.most, bC p.back]]), (3, [.bx [iC q.kind, sC q.key, sC q.val, sC q.range.lo, sC q.range.hi, iC q.most, bC q.back]])]) (by kernel_rfl) ?_
    refine a_seq ?_
    refine a_seq ?_
    refine a_run [2, 3, 9] tyOK (st1 := mk 36 [(2, .one (.pl [(2, 0)] 0 0)), (3, .one (.pl [(3, 0)] 0 0)), (9, bV ((p.kind != q.kind)))] [(2, [.bx [iC p.kind, sC p.key, sC p.val, sC p.range.lo, sC p.range.hi, iC p.most, bC p.back]]), (3, [.bx [iC q.kind, sC q.key, sC q.val, sC q.range.lo, sC q.range.hi, iC q.most, bC q.back]])]) (by kernel_rfl) ?_
    refine a_cond (b := (p.kind != q.kind)) (by kernel_rfl) (fun h1 => ?_) (fun h1 => ?_)
    · have g1 := h1
      try simp only [bne_iff_ne, bne_eq_false_iff_eq, ne_eq] at g1
      refine a_seq ?_
      refine a_run [4] tyOK (st1 := mk 36 [(4, bV false)] []) (by kernel_rfl) ?_
      refine a_ret ?_
      have e : eqAsk p q = false := by rw [eqAsk]; rw [h1, cond_true]
      exact end_eq (res' := bV false) (by kernel_rfl) (by rw [e] <;> rfl)
    · have g1 := h1
      try simp only [bne_iff_ne, bne_eq_false_iff_eq, ne_eq] at g1
      refine a_skip ?_
      refine a_seq ?_
      refine a_seq ?_
      refine a_run [2, 3, 14] tyOK (st1 := mk 36 [(2, .one (.pl [(2, 0)] 0 0)), (3, .one (.pl [(3, 0)] 0 0)), (14, bV (!(p.key.toList == q.key.toList)))] [(2, [.bx [iC p.kind, sC p.key, sC p.val, sC p.range.lo, sC p.range.hi, iC p.most, bC p.back]]), (3, [.bx [iC q.kind, sC q.key, sC q.val, sC q.range.lo, sC q.range.hi, iC q.most, bC q.back]])]) (by kernel_rfl) ?_
      refine a_cond (b := !(p.key.toList == q.key.toList)) (by kernel_rfl) (fun h2 => ?_) (fun h2 => ?_)
      · have g2 := h2
        try simp only [beq_iff_eq, beq_eq_false_iff_ne, Bool.not_eq_true, Bool.not_eq_false, Bool.not_eq_true'] at g2
        refine a_seq ?_
        refine a_run [4] tyOK (st1 := mk 36 [(4, bV false)] []) (by kernel_rfl) ?_
        refine a_ret ?_
        have e : eqAsk p q = false := by rw [eqAsk]; rw [h1, cond_false, h2, cond_true]
        exact end_eq (res' := bV false) (by kernel_rfl) (by rw [e] <;> rfl)
      · have g2 := h2
        try simp only [beq_iff_eq, beq_eq_false_iff_ne, Bool.not_eq_true, Bool.not_eq_false, Bool.not_eq_true'] at g2
        refine a_skip ?_
        refine a_seq ?_
        refine a_seq ?_
        refine a_run [2, 3, 19] tyOK (st1 := mk 36 [(2, .one (.pl [(2, 0)] 0 0)), (3, .one (.pl [(3, 0)] 0 0)), (19, bV (!(p.val.toList == q.val.toList)))] [(2, [.bx [iC p.kind, sC p.key, sC p.val, sC p.range.lo, sC p.range.hi, iC p.most, bC p.back]]), (3, [.bx [iC q.kind, sC q.key, sC q.val, sC q.range.lo, sC q.range.hi, iC q.most, bC q.back]])]) (by kernel_rfl) ?_
        refine a_cond (b := !(p.val.toList == q.val.toList)) (by kernel_rfl) (fun h3 => ?_) (fun h3 => ?_)
        · have g3 := h3
          try simp only [beq_iff_eq, beq_eq_false_iff_ne, Bool.not_eq_true, Bool.not_eq_false, Bool.not_eq_true'] at g3
          refine a_seq ?_
          refine a_run [4] tyOK (st1 := mk 36 [(4, bV false)] []) (by kernel_rfl) ?_
          refine a_ret ?_
          have e : eqAsk p q = false := by rw [eqAsk]; rw [h1, cond_false, h2, cond_false, h3, cond_true]
          exact end_eq (res' := bV false) (by kernel_rfl) (by rw [e] <;> rfl)
        · have g3 := h3
          try simp only [beq_iff_eq, beq_eq_false_iff_ne, Bool.not_eq_true, Bool.not_eq_false, Bool.not_eq_true'] at g3
          refine a_skip ?_
          refine a_seq ?_
          refine a_seq ?_
          refine a_ops [0, 1, 2, 3, 4, 5] (by kernel_rfl) ?_
          refine ao_some [0, 1, 2, 3] [4, 5] [2, 3, 21, 23] tyOK (st1 := mk 36 [(2, .one (.pl [(2, 0)] 0 0)), (3, .one (.pl [(3, 0)] 0 0)), (21, .agg [.c (sC p.range.lo), .c (sC p.range.hi)]), (23, .agg [.c (sC q.range.lo), .c (sC q.range.hi)])] [(2, [.bx [iC p.kind, sC p.key, sC p.val, sC p.range.lo, sC p.range.hi, iC p.most, bC p.back]]), (3, [.bx [iC q.kind, sC q.key, sC q.val, sC q.range.lo, sC q.range.hi, iC q.most, bC q.back]])]) (by kernel_rfl) ?_
          refine ao_enter (f := 46) (d := 24) (A := [.agg [.c (sC p.range.lo), .c (sC p.range.hi)], .agg [.c (sC q.range.lo), .c (sC q.range.hi)]]) (st1 := mk 36 [(2, .one (.pl [(2, 0)] 0 0)), (3, .one (.pl [(3, 0)] 0 0)), (24, bV (eqRange p.range q.range))] [(2, [.bx [iC p.kind, sC p.key, sC p.val, sC p.range.lo, sC p.range.hi, iC p.most, bC p.back]]), (3, [.bx [iC q.kind, sC q.key, sC q.val, sC q.range.lo, sC q.range.hi, iC q.most, bC q.back]])]) [2, 3, 24] (ok46 p.range q.range) Try.call46 (by kernel_rfl) (by kernel_rfl) (by kernel_rfl) ?_
          refine ao_some [5] [] [2, 3, 25] tyOK (st1 := mk 36 [(2, .one (.pl [(2, 0)] 0 0)), (3, .one (.pl [(3, 0)] 0 0)), (25, bV (!(eqRange p.range q.range)))] [(2, [.bx [iC p.kind, sC p.key, sC p.val, sC p.range.lo, sC p.range.hi, iC p.most, bC p.back]]), (3, [.bx [iC q.kind, sC q.key, sC q.val, sC q.range.lo, sC q.range.hi, iC q.most, bC q.back]])]) (by kernel_rfl) ?_
          refine ao_nil ?_
          refine a_cond (b := !(eqRange p.range q.range)) (by kernel_rfl) (fun h4 => ?_) (fun h4 => ?_)
          · have g4 := h4
            try simp only [Bool.not_eq_true, Bool.not_eq_false, Bool.not_eq_true'] at g4
            refine a_seq ?_
            refine a_run [4] tyOK (st1 := mk 36 [(4, bV false)] []) (by kernel_rfl) ?_
            refine a_ret ?_
            have e : eqAsk p q = false := by rw [eqAsk]; rw [h1, cond_false, h2, cond_false, h3, cond_false, h4, cond_true]
            exact end_eq (res' := bV false) (by kernel_rfl) (by rw [e] <;> rfl)
          · have g4 := h4
            try simp only [Bool.not_eq_true, Bool.not_eq_false, Bool.not_eq_true'] at g4
            refine a_skip ?_
            refine a_seq ?_
            refine a_seq ?_
            refine a_run [2, 3, 30] tyOK (st1 := mk 36 [(2, .one (.pl [(2, 0)] 0 0)), (3, .one (.pl [(3, 0)] 0 0)), (30, bV ((p.most != q.most)))] [(2, [.bx [iC p.kind, sC p.key, sC p.val, sC p.range.lo, sC p.range.hi, iC p.most, bC p.back]]), (3, [.bx [iC q.kind, sC q.key, sC q.val, sC q.range.lo, sC q.range.hi, iC q.most, bC q.back]])]) (by kernel_rfl) ?_
            refine a_cond (b := (p.most != q.most)) (by kernel_rfl) (fun h5 => ?_) (fun h5 => ?_)
            · have g5 := h5
              try simp only [bne_iff_ne, bne_eq_false_iff_eq, ne_eq] at g5
              refine a_seq ?_
              refine a_run [4] tyOK (st1 := mk 36 [(4, bV false)] []) (by kernel_rfl) ?_
              refine a_ret ?_
              have e : eqAsk p q = false := by rw [eqAsk]; rw [h1, cond_false, h2, cond_false, h3, cond_false, h4, cond_false, h5, cond_true]
              exact end_eq (res' := bV false) (by kernel_rfl) (by rw [e] <;> rfl)
            · have g5 := h5
              try simp only [bne_iff_ne, bne_eq_false_iff_eq, ne_eq] at g5
              refine a_skip ?_
              refine a_seq ?_
              refine a_seq ?_
              refine a_run [35] tyOK (st1 := mk 36 [(35, bV (!(p.back == q.back)))] []) (by kernel_rfl) ?_
              refine a_cond (b := !(p.back == q.back)) (by kernel_rfl) (fun h6 => ?_) (fun h6 => ?_)
              · have g6 := h6
                try simp only [beq_iff_eq, beq_eq_false_iff_ne, Bool.not_eq_true, Bool.not_eq_false, Bool.not_eq_true'] at g6
                refine a_seq ?_
                refine a_run [4] tyOK (st1 := mk 36 [(4, bV false)] []) (by kernel_rfl) ?_
                refine a_ret ?_
                have e : eqAsk p q = false := by rw [eqAsk]; rw [h1, cond_false, h2, cond_false, h3, cond_false, h4, cond_false, h5, cond_false, h6, cond_true]
                exact end_eq (res' := bV false) (by kernel_rfl) (by rw [e] <;> rfl)
              · have g6 := h6
                try simp only [beq_iff_eq, beq_eq_false_iff_ne, Bool.not_eq_true, Bool.not_eq_false, Bool.not_eq_true'] at g6
                refine a_skip ?_
                refine a_seq ?_
                refine a_run [4] tyOK (st1 := mk 36 [(4, bV true)] []) (by kernel_rfl) ?_
                refine a_ret ?_
                have e : eqAsk p q = true := by rw [eqAsk]; rw [h1, cond_false, h2, cond_false, h3, cond_false, h4, cond_false, h5, cond_false, h6, cond_false]
                exact end_eq (res' := bV true) (by kernel_rfl) (by rw [e] <;> rfl)



def eqCall (p : CallR) (q : CallR) : Bool := bif ((p.kind != q.kind)) then false else (bif (!(eqAsk p.ask q.ask)) then false else true)
/-- laws.eqCall -/
theorem ok23 (p : CallR) (q : CallR) : CallOK Try.prog 23 [.agg [.c (iC p.kind), .c (iC p.ask.kind), .c (sC p.ask.key), .c (sC p.ask.val), .c (sC p.ask.range.lo), .c (sC p.ask.range.hi), .c (iC p.ask.most), .c (bC p.ask.back)], .agg [.c (iC q.kind), .c (iC q.ask.kind), .c (sC q.ask.key), .c (sC q.ask.val), .c (sC q.ask.range.lo), .c (sC q.ask.range.hi), .c (iC q.ask.most), .c (bC q.ask.back)]] (bV (eqCall p q)) [] :=
  callOK tyOK Try.func23 rfl fun w S hS => by
    refine a_seq ?_
    refine a_run [2, 3] tyOK (st1 := mk 16 [(2, .one (.pl [(2, 0)] 0 0)), (3, .one (.pl [(3, 0)] 0 0))] [(2, [.bx [iC p.kind, iC p.ask.kind, sC p.ask.key, sC p.ask.val, sC p.ask.range.lo, sC p.ask.range.hi, iC p.ask.most, bC p.ask.back]]), (3, [.bx [iC q.kind, iC q.ask.kind, sC q.ask.key, sC q.ask.val, sC q.ask.range.lo, sC q.ask.range.hi, iC q.ask.most, bC q.ask.back]])]) (by kernel_rfl) ?_
    refine a_seq ?_
    refine a_seq ?_
    refine a_run [2, 3, 9] tyOK (st1 := mk 16 [(2, .one (.pl [(2, 0)] 0 0)), (3, .one (.pl [(3, 0)] 0 0)), (9, bV ((p.kind != q.kind)))] [(2, [.bx [iC p.kind, iC p.ask.kind, sC p.ask.key, sC p.ask.val, sC p.ask.range.lo, sC p.ask.range.hi, iC p.ask.most, bC p.ask.back]]), (3, [.bx [iC q.kind, iC q.ask.kind, sC q.ask.key, sC q.ask.val, sC q.ask.range.lo, sC q.ask.range.hi, iC q.ask.most, bC q.ask.back]])]) (by kernel_rfl) ?_
    refine a_cond (b := (p.kind != q.kind)) (by kernel_rfl) (fun h1 => ?_) (fun h1 => ?_)
    · have g1 := h1
      try simp only [bne_iff_ne, bne_eq_false_iff_eq, ne_eq] at g1
      refine a_seq ?_
      refine a_run [4] tyOK (st1 := mk 16 [(4, bV false)] []) (by kernel_rfl) ?_
      refine a_ret ?_
      have e : eqCall p q = false := by rw [eqCall]; rw [h1, cond_true]
      exact end_eq (res' := bV false) (by kernel_rfl) (by rw [e] <;> rfl)
    · have g1 := h1
      try simp only [bne_iff_ne, bne_eq_false_iff_eq, ne_eq] at g1
      refine a_skip ?_
      refine a_seq ?_
      refine a_seq ?_
      refine a_ops [0, 1, 2, 3, 4, 5] (by kernel_rfl) ?_
      refine ao_some [0, 1, 2, 3] [4, 5] [11, 13] tyOK (st1 := mk 16 [(11, .agg [.c (iC p.ask.kind), .c (sC p.ask.key), .c (sC p.ask.val), .c (sC p.ask.range.lo), .c (sC p.ask.range.hi), .c (iC p.ask.most), .c (bC p.ask.back)]), (13, .agg [.c (iC q.ask.kind), .c (sC q.ask.key), .c (sC q.ask.val), .c (sC q.ask.range.lo), .c (sC q.ask.range.hi), .c (iC q.ask.most), .c (bC q.ask.back)])] []) (by kernel_rfl) ?_
      refine ao_enter (f := 35) (d := 14) (A := [.agg [.c (iC p.ask.kind), .c (sC p.ask.key), .c (sC p.ask.val), .c (sC p.ask.range.lo), .c (sC p.ask.range.hi), .c (iC p.ask.most), .c (bC p.ask.back)], .agg [.c (iC q.ask.kind), .c (sC q.ask.key), .c (sC q.ask.val), .c (sC q.ask.range.lo), .c (sC q.ask.range.hi), .c (iC q.ask.most), .c (bC q.ask.back)]]) (st1 := mk 16 [(14, bV (eqAsk p.ask q.ask))] []) [14] (ok35 p.ask q.ask) Try.call35 (by kernel_rfl) (by kernel_rfl) (by kernel_rfl) ?_
      refine ao_some [5] [] [15] tyOK (st1 := mk 16 [(15, bV (!(eqAsk p.ask q.ask)))] []) (by kernel_rfl) ?_
      refine ao_nil ?_
      refine a_cond (b := !(eqAsk p.ask q.ask)) (by kernel_rfl) (fun h2 => ?_) (fun h2 => ?_)
      · have g2 := h2
        try simp only [Bool.not_eq_true, Bool.not_eq_false, Bool.not_eq_true'] at g2
        refine a_seq ?_
        refine a_run [4] tyOK (st1 := mk 16 [(4, bV false)] []) (by kernel_rfl) ?_
        refine a_ret ?_
        have e : eqCall p q = false := by rw [eqCall]; rw [h1, cond_false, h2, cond_true]
        exact end_eq (res' := bV false) (by kernel_rfl) (by rw [e] <;> rfl)
      · have g2 := h2
        try simp only [Bool.not_eq_true, Bool.not_eq_false, Bool.not_eq_true'] at g2
        refine a_skip ?_
        refine a_seq ?_
        refine a_run [4] tyOK (st1 := mk 16 [(4, bV true)] []) (by kernel_rfl) ?_
        refine a_ret ?_
        have e : eqCall p q = true := by rw [eqCall]; rw [h1, cond_false, h2, cond_false]
        exact end_eq (res' := bV true) (by kernel_rfl) (by rw [e] <;> rfl)


def eqI (a b : Int) : Bool := a == b
def eqIntS (xs ys : List Int) : Bool := eqL eqI xs ys

structure L22_1 (xs : (List Int)) (ys : (List Int)) where
  k : Nat
  inv : k ≤ xs.length ∧ xs.length = ys.length ∧ eqL eqI (xs.drop k) (ys.drop k) = eqL eqI xs ys

/-- laws.eqIntS -/
theorem ok22 (xs : (List Int)) (ys : (List Int)) (hn : xs.length < 9223372036854775808) : CallOK Try.prog 22 [.one (.c (.sl 1 ((xs).map eInt))), .one (.c (.sl 1 ((ys).map eInt)))] (bV (eqIntS xs ys)) [] :=
  callOK tyOK Try.func22 rfl fun w S hS => by
    refine a_seq ?_
    refine a_run [0, 1] tyOK (st1 := mk 26 [(0, .one (.c (.sl 1 ((xs).map eInt)))), (1, .one (.c (.sl 1 ((ys).map eInt))))] []) (by kernel_rfl) ?_
    refine a_seq ?_
    refine a_seq ?_
    refine a_run [0, 1, 10] tyOK (st1 := mk 26 [(0, .one (.c (.sl 1 ((xs).map eInt)))), (1, .one (.c (.sl 1 ((ys).map eInt)))), (10, bV (((((((xs).map eInt).length : Nat) : Int)) != (((((ys).map eInt).length : Nat) : Int)))))] []) (by kernel_rfl) ?_
    refine a_cond (b := ((((((xs).map eInt).length : Nat) : Int)) != (((((ys).map eInt).length : Nat) : Int)))) (by kernel_rfl) (fun h1 => ?_) (fun h1 => ?_)
    · have g1 := h1
      try simp only [List.length_map, bne_iff_ne, bne_eq_false_iff_eq, ne_eq] at g1
      refine a_seq ?_
      refine a_run [4] tyOK (st1 := mk 26 [(4, bV false)] []) (by kernel_rfl) ?_
      refine a_ret ?_
      have e : eqIntS xs ys = false := by
          rw [eqIntS, eqL_len (by omega)]
      exact end_eq (res' := bV false) (by kernel_rfl) (by rw [e] <;> rfl)
    · have g1 := h1
      try simp only [List.length_map, bne_iff_ne, bne_eq_false_iff_eq, ne_eq] at g1
      refine a_skip ?_
      refine a_seq ?_
      refine a_seq ?_
      refine a_run [0, 1, 5] tyOK (st1 := mk 26 [(0, .one (.c (.sl 1 ((xs).map eInt)))), (1, .one (.c (.sl 1 ((ys).map eInt)))), (5, iV 0)] []) (by kernel_rfl) ?_
      refine a_block ?_
      refine a_keep [0, 1, 5] ?_
      refine a_loop (ι := L22_1 xs ys) (fun ⟨k, _⟩ => mk 26 [(0, .one (.c (.sl 1 ((xs).map eInt)))), (1, .one (.c (.sl 1 ((ys).map eInt)))), (5, iV (((k : Nat) : Int)))] []) (fun ⟨k, _⟩ => xs.length - k) ⟨0, Nat.zero_le _, by omega, rfl⟩ (by kernel_rfl) ?_
      rintro ⟨k, hI⟩
      obtain ⟨hk, hE, hR⟩ := hI
      show AWp _ _ _ _ (mk 26 [(0, .one (.c (.sl 1 ((xs).map eInt)))), (1, .one (.c (.sl 1 ((ys).map eInt)))), (5, iV (((k : Nat) : Int)))] [])
      refine a_seq ?_
      refine a_seq ?_
      refine a_run [0, 1, 5, 14] tyOK (st1 := mk 26 [(0, .one (.c (.sl 1 ((xs).map eInt)))), (1, .one (.c (.sl 1 ((ys).map eInt)))), (5, iV (((k : Nat) : Int))), (14, bV (decide ((((k : Nat) : Int)) < (((((xs).map eInt).length : Nat) : Int)))))] []) (by kernel_rfl) ?_
      refine a_cond (b := decide ((((k : Nat) : Int)) < (((((xs).map eInt).length : Nat) : Int)))) (by kernel_rfl) (fun h2 => ?_) (fun h2 => ?_)
      · have g2 := h2
        try simp only [decide_eq_true_eq, decide_eq_false_iff_not, List.length_map] at g2
        refine a_skip ?_
        refine a_seq ?_
        refine a_block ?_
        refine a_seq ?_
        refine a_mid (mk 26 [(0, .one (.c (.sl 1 ((xs).map eInt)))), (1, .one (.c (.sl 1 ((ys).map eInt)))), (5, iV (((k : Nat) : Int))), (25, bV ((((el xs (((k : Nat) : Int)))) != ((el ys (((k : Nat) : Int)))))))] []) ?_ ?_
        · refine a_drawn (n := 9) [] (by kernel_rfl) (by kernel_rfl) ?_
          refine aa_take (fuel := 5) (listed' := #[true, true, false, false, true, true, false, false, false]) (st' := mk 26 [(0, .one (.c (.sl 1 ((xs).map eInt)))), (1, .one (.c (.sl 1 ((ys).map eInt)))), (5, iV (((k : Nat) : Int))), (17, .one (.c (.sl 1 ((xs).map eInt)))), (18, iV (((k : Nat) : Int))), (21, .one (.c (.sl 1 ((ys).map eInt)))), (22, iV (((k : Nat) : Int)))] []) [0, 1, 4, 5] [0, 1, 5, 17, 18, 21, 22] tyOK (by kernel_rfl) (by kernel_rfl) (by kernel_rfl) ?_
          have p1 : 0 ≤ (((k : Nat) : Int)) ∧ (((k : Nat) : Int)).toNat < (xs).length := by first | omega | (rw [mv_wrap (by omega) (by omega)]; omega)
          have q1 := el_get p1.2
          have r1 := q1
          try simp only [Int.toNat_natCast] at r1
          refine aa_index (i := 2) (d := 19) (size := 1) (n := ((k : Nat) : Int)) (rows := (xs).map eInt) (listed' := #[true, true, true, false, true, true, false, false, false]) (st1 := mk 26 [(0, .one (.c (.sl 1 ((xs).map eInt)))), (1, .one (.c (.sl 1 ((ys).map eInt)))), (5, iV (((k : Nat) : Int))), (19, .one (.fp [iC ((el xs (((k : Nat) : Int))))] 0)), (21, .one (.c (.sl 1 ((ys).map eInt)))), (22, iV (((k : Nat) : Int)))] []) (eInt (el xs (((k : Nat) : Int)))) [0, 1, 5, 19, 21, 22] tyOK (by kernel_rfl) (by kernel_rfl) p1.1 (by rw [List.getElem?_map, q1]; rfl) (by kernel_rfl) (by kernel_rfl) (by kernel_rfl) (by kernel_rfl) ?_
          refine aa_take (fuel := 3) (listed' := #[true, true, true, true, true, true, false, false, false]) (st' := mk 26 [(0, .one (.c (.sl 1 ((xs).map eInt)))), (1, .one (.c (.sl 1 ((ys).map eInt)))), (5, iV (((k : Nat) : Int))), (20, iV ((el xs (((k : Nat) : Int))))), (21, .one (.c (.sl 1 ((ys).map eInt)))), (22, iV (((k : Nat) : Int)))] []) [3] [0, 1, 5, 20, 21, 22] tyOK (by kernel_rfl) (by kernel_rfl) (by kernel_rfl) ?_
          have p2 : 0 ≤ (((k : Nat) : Int)) ∧ (((k : Nat) : Int)).toNat < (ys).length := by first | omega | (rw [mv_wrap (by omega) (by omega)]; omega)
          have q2 := el_get p2.2
          have r2 := q2
          try simp only [Int.toNat_natCast] at r2
          refine aa_index (i := 6) (d := 23) (size := 1) (n := ((k : Nat) : Int)) (rows := (ys).map eInt) (listed' := #[true, true, true, true, true, true, true, false, false]) (st1 := mk 26 [(0, .one (.c (.sl 1 ((xs).map eInt)))), (1, .one (.c (.sl 1 ((ys).map eInt)))), (5, iV (((k : Nat) : Int))), (20, iV ((el xs (((k : Nat) : Int))))), (23, .one (.fp [iC ((el ys (((k : Nat) : Int))))] 0))] []) (eInt (el ys (((k : Nat) : Int)))) [0, 1, 5, 20, 23] tyOK (by kernel_rfl) (by kernel_rfl) p2.1 (by rw [List.getElem?_map, q2]; rfl) (by kernel_rfl) (by kernel_rfl) (by kernel_rfl) (by kernel_rfl) ?_
          refine aa_take (fuel := 0) (listed' := #[true, true, true, true, true, true, true, true, true]) (st' := mk 26 [(0, .one (.c (.sl 1 ((xs).map eInt)))), (1, .one (.c (.sl 1 ((ys).map eInt)))), (5, iV (((k : Nat) : Int))), (25, bV ((((el xs (((k : Nat) : Int)))) != ((el ys (((k : Nat) : Int)))))))] []) [7, 8] [0, 1, 5, 25] tyOK (by kernel_rfl) (by kernel_rfl) (by kernel_rfl) ?_
          refine aa_done (by kernel_rfl) ?_
          show _ = _; kernel_rfl
        refine a_cond (b := (((el xs (((k : Nat) : Int)))) != ((el ys (((k : Nat) : Int)))))) (by kernel_rfl) (fun h3 => ?_) (fun h3 => ?_)
        · have g3 := h3
          try simp only [bne_iff_ne, bne_eq_false_iff_eq, ne_eq] at g3
          refine a_seq ?_
          refine a_run [4] tyOK (st1 := mk 26 [(4, bV false)] []) (by kernel_rfl) ?_
          refine a_ret ?_
          have e : eqIntS xs ys = false := by
              rw [eqIntS, ← hR, eqL_step (by omega) (by omega), if_neg (by simpa [eqI] using h3)]
          exact end_eq (res' := bV false) (by kernel_rfl) (by rw [e] <;> rfl)
        · have g3 := h3
          try simp only [bne_iff_ne, bne_eq_false_iff_eq, ne_eq] at g3
          refine a_skip ?_
          refine a_run [0, 1, 5] tyOK (st1 := mk 26 [(0, .one (.c (.sl 1 ((xs).map eInt)))), (1, .one (.c (.sl 1 ((ys).map eInt)))), (5, iV (IntKind.wrap .i64 ((((k : Nat) : Int)) + 1)))] []) (by kernel_rfl) ?_
          refine ⟨⟨(k + 1), ?_⟩, ?_, ?_⟩
          · exact ⟨by omega, hE, by rw [← hR, eqL_step (k := k) (by omega) (by omega), if_pos (by simpa [eqI] using h3)]⟩
          · exact (show _ = mk 26 [(0, .one (.c (.sl 1 ((xs).map eInt)))), (1, .one (.c (.sl 1 ((ys).map eInt)))), (5, iV (IntKind.wrap .i64 ((((k : Nat) : Int)) + 1)))] [] by kernel_rfl).trans (by rw [mv_wrap (by omega) (by omega)]; rfl)
          · dsimp only; omega
      · have g2 := h2
        try simp only [decide_eq_true_eq, decide_eq_false_iff_not, List.length_map] at g2
        refine a_exit ?_
        refine a_seq ?_
        refine a_run [4] tyOK (st1 := mk 26 [(4, bV true)] []) (by kernel_rfl) ?_
        refine a_ret ?_
        have e : eqIntS xs ys = true := by
            rw [eqIntS, ← hR, List.drop_eq_nil_of_le (by omega), List.drop_eq_nil_of_le (by omega), eqL]
        exact end_eq (res' := bV true) (by kernel_rfl) (by rw [e] <;> rfl)



def eqStep (p : Step) (q : Step) : Bool := bif ((p.kind != q.kind)) then false else (bif ((p.a != q.a)) then false else (bif ((p.b != q.b)) then false else (bif (!(eqIntS p.keep q.keep)) then false else (bif (!(eqCall p.call q.call)) then false else true))))
/-- laws.eqStep -/
theorem ok8 (p : Step) (q : Step) (hp : okStep p) : CallOK Try.prog 8 [.agg [.c (iC p.kind), .c (iC p.a), .c (iC p.b), .c (.sl 1 ((p.keep).map eInt)), .c (iC p.call.kind), .c (iC p.call.ask.kind), .c (sC p.call.ask.key), .c (sC p.call.ask.val), .c (sC p.call.ask.range.lo), .c (sC p.call.ask.range.hi), .c (iC p.call.ask.most), .c (bC p.call.ask.back)], .agg [.c (iC q.kind), .c (iC q.a), .c (iC q.b), .c (.sl 1 ((q.keep).map eInt)), .c (iC q.call.kind), .c (iC q.call.ask.kind), .c (sC q.call.ask.key), .c (sC q.call.ask.val), .c (sC q.call.ask.range.lo), .c (sC q.call.ask.range.hi), .c (iC q.call.ask.most), .c (bC q.call.ask.back)]] (bV (eqStep p q)) [] :=
  callOK tyOK Try.func8 rfl fun w S hS => by
    refine a_seq ?_
    refine a_run [2, 3] tyOK (st1 := mk 32 [(2, .one (.pl [(2, 0)] 0 0)), (3, .one (.pl [(3, 0)] 0 0))] [(2, [.bx [iC p.kind, iC p.a, iC p.b, .fz (.sl 1 ((p.keep).map eInt)), iC p.call.kind, iC p.call.ask.kind, sC p.call.ask.key, sC p.call.ask.val, sC p.call.ask.range.lo, sC p.call.ask.range.hi, iC p.call.ask.most, bC p.call.ask.back]]), (3, [.bx [iC q.kind, iC q.a, iC q.b, .fz (.sl 1 ((q.keep).map eInt)), iC q.call.kind, iC q.call.ask.kind, sC q.call.ask.key, sC q.call.ask.val, sC q.call.ask.range.lo, sC q.call.ask.range.hi, iC q.call.ask.most, bC q.call.ask.back]])]) (by kernel_rfl) ?_
    refine a_seq ?_
    refine a_seq ?_
    refine a_run [2, 3, 9] tyOK (st1 := mk 32 [(2, .one (.pl [(2, 0)] 0 0)), (3, .one (.pl [(3, 0)] 0 0)), (9, bV ((p.kind != q.kind)))] [(2, [.bx [iC p.kind, iC p.a, iC p.b, .fz (.sl 1 ((p.keep).map eInt)), iC p.call.kind, iC p.call.ask.kind, sC p.call.ask.key, sC p.call.ask.val, sC p.call.ask.range.lo, sC p.call.ask.range.hi, iC p.call.ask.most, bC p.call.ask.back]]), (3, [.bx [iC q.kind, iC q.a, iC q.b, .fz (.sl 1 ((q.keep).map eInt)), iC q.call.kind, iC q.call.ask.kind, sC q.call.ask.key, sC q.call.ask.val, sC q.call.ask.range.lo, sC q.call.ask.range.hi, iC q.call.ask.most, bC q.call.ask.back]])]) (by kernel_rfl) ?_
    refine a_cond (b := (p.kind != q.kind)) (by kernel_rfl) (fun h1 => ?_) (fun h1 => ?_)
    · have g1 := h1
      try simp only [bne_iff_ne, bne_eq_false_iff_eq, ne_eq] at g1
      refine a_seq ?_
      refine a_run [4] tyOK (st1 := mk 32 [(4, bV false)] []) (by kernel_rfl) ?_
      refine a_ret ?_
      have e : eqStep p q = false := by rw [eqStep]; rw [h1, cond_true]
      exact end_eq (res' := bV false) (by kernel_rfl) (by rw [e] <;> rfl)
    · have g1 := h1
      try simp only [bne_iff_ne, bne_eq_false_iff_eq, ne_eq] at g1
      refine a_skip ?_
      refine a_seq ?_
      refine a_seq ?_
      refine a_run [2, 3, 14] tyOK (st1 := mk 32 [(2, .one (.pl [(2, 0)] 0 0)), (3, .one (.pl [(3, 0)] 0 0)), (14, bV ((p.a != q.a)))] [(2, [.bx [iC p.kind, iC p.a, iC p.b, .fz (.sl 1 ((p.keep).map eInt)), iC p.call.kind, iC p.call.ask.kind, sC p.call.ask.key, sC p.call.ask.val, sC p.call.ask.range.lo, sC p.call.ask.range.hi, iC p.call.ask.most, bC p.call.ask.back]]), (3, [.bx [iC q.kind, iC q.a, iC q.b, .fz (.sl 1 ((q.keep).map eInt)), iC q.call.kind, iC q.call.ask.kind, sC q.call.ask.key, sC q.call.ask.val, sC q.call.ask.range.lo, sC q.call.ask.range.hi, iC q.call.ask.most, bC q.call.ask.back]])]) (by kernel_rfl) ?_
      refine a_cond (b := (p.a != q.a)) (by kernel_rfl) (fun h2 => ?_) (fun h2 => ?_)
      · have g2 := h2
        try simp only [bne_iff_ne, bne_eq_false_iff_eq, ne_eq] at g2
        refine a_seq ?_
        refine a_run [4] tyOK (st1 := mk 32 [(4, bV false)] []) (by kernel_rfl) ?_
        refine a_ret ?_
        have e : eqStep p q = false := by rw [eqStep]; rw [h1, cond_false, h2, cond_true]
        exact end_eq (res' := bV false) (by kernel_rfl) (by rw [e] <;> rfl)
      · have g2 := h2
        try simp only [bne_iff_ne, bne_eq_false_iff_eq, ne_eq] at g2
        refine a_skip ?_
        refine a_seq ?_
        refine a_seq ?_
        refine a_run [2, 3, 19] tyOK (st1 := mk 32 [(2, .one (.pl [(2, 0)] 0 0)), (3, .one (.pl [(3, 0)] 0 0)), (19, bV ((p.b != q.b)))] [(2, [.bx [iC p.kind, iC p.a, iC p.b, .fz (.sl 1 ((p.keep).map eInt)), iC p.call.kind, iC p.call.ask.kind, sC p.call.ask.key, sC p.call.ask.val, sC p.call.ask.range.lo, sC p.call.ask.range.hi, iC p.call.ask.most, bC p.call.ask.back]]), (3, [.bx [iC q.kind, iC q.a, iC q.b, .fz (.sl 1 ((q.keep).map eInt)), iC q.call.kind, iC q.call.ask.kind, sC q.call.ask.key, sC q.call.ask.val, sC q.call.ask.range.lo, sC q.call.ask.range.hi, iC q.call.ask.most, bC q.call.ask.back]])]) (by kernel_rfl) ?_
        refine a_cond (b := (p.b != q.b)) (by kernel_rfl) (fun h3 => ?_) (fun h3 => ?_)
        · have g3 := h3
          try simp only [bne_iff_ne, bne_eq_false_iff_eq, ne_eq] at g3
          refine a_seq ?_
          refine a_run [4] tyOK (st1 := mk 32 [(4, bV false)] []) (by kernel_rfl) ?_
          refine a_ret ?_
          have e : eqStep p q = false := by rw [eqStep]; rw [h1, cond_false, h2, cond_false, h3, cond_true]
          exact end_eq (res' := bV false) (by kernel_rfl) (by rw [e] <;> rfl)
        · have g3 := h3
          try simp only [bne_iff_ne, bne_eq_false_iff_eq, ne_eq] at g3
          refine a_skip ?_
          refine a_seq ?_
          refine a_seq ?_
          refine a_ops [0, 1, 2, 3, 4, 5] (by kernel_rfl) ?_
          refine ao_some [0, 1, 2, 3] [4, 5] [2, 3, 21, 23] tyOK (st1 := mk 32 [(2, .one (.pl [(2, 0)] 0 0)), (3, .one (.pl [(3, 0)] 0 0)), (21, .one (.c (.sl 1 ((p.keep).map eInt)))), (23, .one (.c (.sl 1 ((q.keep).map eInt))))] [(2, [.bx [iC p.kind, iC p.a, iC p.b, .fz (.sl 1 ((p.keep).map eInt)), iC p.call.kind, iC p.call.ask.kind, sC p.call.ask.key, sC p.call.ask.val, sC p.call.ask.range.lo, sC p.call.ask.range.hi, iC p.call.ask.most, bC p.call.ask.back]]), (3, [.bx [iC q.kind, iC q.a, iC q.b, .fz (.sl 1 ((q.keep).map eInt)), iC q.call.kind, iC q.call.ask.kind, sC q.call.ask.key, sC q.call.ask.val, sC q.call.ask.range.lo, sC q.call.ask.range.hi, iC q.call.ask.most, bC q.call.ask.back]])]) (by kernel_rfl) ?_
          refine ao_enter (f := 22) (d := 24) (A := [.one (.c (.sl 1 ((p.keep).map eInt))), .one (.c (.sl 1 ((q.keep).map eInt)))]) (st1 := mk 32 [(2, .one (.pl [(2, 0)] 0 0)), (3, .one (.pl [(3, 0)] 0 0)), (24, bV (eqIntS p.keep q.keep))] [(2, [.bx [iC p.kind, iC p.a, iC p.b, .fz (.sl 1 ((p.keep).map eInt)), iC p.call.kind, iC p.call.ask.kind, sC p.call.ask.key, sC p.call.ask.val, sC p.call.ask.range.lo, sC p.call.ask.range.hi, iC p.call.ask.most, bC p.call.ask.back]]), (3, [.bx [iC q.kind, iC q.a, iC q.b, .fz (.sl 1 ((q.keep).map eInt)), iC q.call.kind, iC q.call.ask.kind, sC q.call.ask.key, sC q.call.ask.val, sC q.call.ask.range.lo, sC q.call.ask.range.hi, iC q.call.ask.most, bC q.call.ask.back]])]) [2, 3, 24] (ok22 p.keep q.keep (by have := hp.1; omega)) Try.call22 (by kernel_rfl) (by kernel_rfl) (by kernel_rfl) ?_
          refine ao_some [5] [] [2, 3, 25] tyOK (st1 := mk 32 [(2, .one (.pl [(2, 0)] 0 0)), (3, .one (.pl [(3, 0)] 0 0)), (25, bV (!(eqIntS p.keep q.keep)))] [(2, [.bx [iC p.kind, iC p.a, iC p.b, .fz (.sl 1 ((p.keep).map eInt)), iC p.call.kind, iC p.call.ask.kind, sC p.call.ask.key, sC p.call.ask.val, sC p.call.ask.range.lo, sC p.call.ask.range.hi, iC p.call.ask.most, bC p.call.ask.back]]), (3, [.bx [iC q.kind, iC q.a, iC q.b, .fz (.sl 1 ((q.keep).map eInt)), iC q.call.kind, iC q.call.ask.kind, sC q.call.ask.key, sC q.call.ask.val, sC q.call.ask.range.lo, sC q.call.ask.range.hi, iC q.call.ask.most, bC q.call.ask.back]])]) (by kernel_rfl) ?_
          refine ao_nil ?_
          refine a_cond (b := !(eqIntS p.keep q.keep)) (by kernel_rfl) (fun h4 => ?_) (fun h4 => ?_)
          · have g4 := h4
            try simp only [Bool.not_eq_true, Bool.not_eq_false, Bool.not_eq_true'] at g4
            refine a_seq ?_
            refine a_run [4] tyOK (st1 := mk 32 [(4, bV false)] []) (by kernel_rfl) ?_
            refine a_ret ?_
            have e : eqStep p q = false := by rw [eqStep]; rw [h1, cond_false, h2, cond_false, h3, cond_false, h4, cond_true]
            exact end_eq (res' := bV false) (by kernel_rfl) (by rw [e] <;> rfl)
          · have g4 := h4
            try simp only [Bool.not_eq_true, Bool.not_eq_false, Bool.not_eq_true'] at g4
            refine a_skip ?_
            refine a_seq ?_
            refine a_seq ?_
            refine a_ops [0, 1, 2, 3, 4, 5] (by kernel_rfl) ?_
            refine ao_some [0, 1, 2, 3] [4, 5] [27, 29] tyOK (st1 := mk 32 [(27, .agg [.c (iC p.call.kind), .c (iC p.call.ask.kind), .c (sC p.call.ask.key), .c (sC p.call.ask.val), .c (sC p.call.ask.range.lo), .c (sC p.call.ask.range.hi), .c (iC p.call.ask.most), .c (bC p.call.ask.back)]), (29, .agg [.c (iC q.call.kind), .c (iC q.call.ask.kind), .c (sC q.call.ask.key), .c (sC q.call.ask.val), .c (sC q.call.ask.range.lo), .c (sC q.call.ask.range.hi), .c (iC q.call.ask.most), .c (bC q.call.ask.back)])] []) (by kernel_rfl) ?_
            refine ao_enter (f := 23) (d := 30) (A := [.agg [.c (iC p.call.kind), .c (iC p.call.ask.kind), .c (sC p.call.ask.key), .c (sC p.call.ask.val), .c (sC p.call.ask.range.lo), .c (sC p.call.ask.range.hi), .c (iC p.call.ask.most), .c (bC p.call.ask.back)], .agg [.c (iC q.call.kind), .c (iC q.call.ask.kind), .c (sC q.call.ask.key), .c (sC q.call.ask.val), .c (sC q.call.ask.range.lo), .c (sC q.call.ask.range.hi), .c (iC q.call.ask.most), .c (bC q.call.ask.back)]]) (st1 := mk 32 [(30, bV (eqCall p.call q.call))] []) [30] (ok23 p.call q.call) Try.call23 (by kernel_rfl) (by kernel_rfl) (by kernel_rfl) ?_
            refine ao_some [5] [] [31] tyOK (st1 := mk 32 [(31, bV (!(eqCall p.call q.call)))] []) (by kernel_rfl) ?_
            refine ao_nil ?_
            refine a_cond (b := !(eqCall p.call q.call)) (by kernel_rfl) (fun h5 => ?_) (fun h5 => ?_)
            · have g5 := h5
              try simp only [Bool.not_eq_true, Bool.not_eq_false, Bool.not_eq_true'] at g5
              refine a_seq ?_
              refine a_run [4] tyOK (st1 := mk 32 [(4, bV false)] []) (by kernel_rfl) ?_
              refine a_ret ?_
              have e : eqStep p q = false := by rw [eqStep]; rw [h1, cond_false, h2, cond_false, h3, cond_false, h4, cond_false, h5, cond_true]
              exact end_eq (res' := bV false) (by kernel_rfl) (by rw [e] <;> rfl)
            · have g5 := h5
              try simp only [Bool.not_eq_true, Bool.not_eq_false, Bool.not_eq_true'] at g5
              refine a_skip ?_
              refine a_seq ?_
              refine a_run [4] tyOK (st1 := mk 32 [(4, bV true)] []) (by kernel_rfl) ?_
              refine a_ret ?_
              have e : eqStep p q = true := by rw [eqStep]; rw [h1, cond_false, h2, cond_false, h3, cond_false, h4, cond_false, h5, cond_false]
              exact end_eq (res' := bV true) (by kernel_rfl) (by rw [e] <;> rfl)


theorem eqI_self (a : Int) : eqI a a = true := by simp [eqI]
theorem eqRange_self (p : Range) : eqRange p p = true := by simp [eqRange]
theorem eqAsk_self (p : Ask) : eqAsk p p = true := by simp [eqAsk, eqRange_self]
theorem eqCall_self (p : CallR) : eqCall p p = true := by simp [eqCall, eqAsk_self]
theorem eqStep_self (p : Step) : eqStep p p = true := by simp [eqStep, eqCall_self, eqIntS, eqL_self eqI_self]
theorem szInt_len {xs : List Int} (hx : xs.length * 8 ≤ 140737488351232) (h : ¬ szIntS xs 1048576 < 0) : xs.length ≤ 1048576 := by
  unfold szIntS at h
  rw [List.length_map, mv_wrap (by omega) (by omega)] at h
  simp only [cond_eq_ite, decide_eq_true_eq] at h
  split at h <;> omega
theorem step_len {p : Step} (ho : okStep p) (h : ¬ szStep p 1048576 < 0) : (toStep p).keep.length ≤ 1048576 := by
  have hp := ho.1
  show p.keep.length ≤ 1048576
  unfold szStep at h
  simp only [cond_eq_ite, decide_eq_true_eq] at h
  split at h
  · omega
  · rename_i h1
    exact szInt_len hp h1
def lawStep (p : Step) : Bool := true

/-- laws.FnExactStepText -/
theorem ok3 (p : Step) (hp : okStep p) : CallOK Try.prog 3 [.agg [.c (iC p.kind), .c (iC p.a), .c (iC p.b), .c (.sl 1 ((p.keep).map eInt)), .c (iC p.call.kind), .c (iC p.call.ask.kind), .c (sC p.call.ask.key), .c (sC p.call.ask.val), .c (sC p.call.ask.range.lo), .c (sC p.call.ask.range.hi), .c (iC p.call.ask.most), .c (bC p.call.ask.back)]] (bV (lawStep p)) [] :=
  callOK tyOK Try.func3 rfl fun w S hS => by
    refine a_seq ?_
    refine a_run [1] tyOK (st1 := mk 27 [(1, .one (.pl [(1, 0)] 0 0))] [(1, [.bx [iC p.kind, iC p.a, iC p.b, .fz (.sl 1 ((p.keep).map eInt)), iC p.call.kind, iC p.call.ask.kind, sC p.call.ask.key, sC p.call.ask.val, sC p.call.ask.range.lo, sC p.call.ask.range.hi, iC p.call.ask.most, bC p.call.ask.back]])]) (by kernel_rfl) ?_
    refine a_seq ?_
    refine a_run [1, 3] tyOK (st1 := mk 27 [(1, .one (.pl [(1, 0)] 0 0)), (3, iV 1048576)] [(1, [.bx [iC p.kind, iC p.a, iC p.b, .fz (.sl 1 ((p.keep).map eInt)), iC p.call.kind, iC p.call.ask.kind, sC p.call.ask.key, sC p.call.ask.val, sC p.call.ask.range.lo, sC p.call.ask.range.hi, iC p.call.ask.most, bC p.call.ask.back]])]) (by kernel_rfl) ?_
    refine a_seq ?_
    refine a_ops [0, 1, 2, 3] (by kernel_rfl) ?_
    refine ao_some [0, 1] [2, 3] [1, 7, 8] tyOK (st1 := mk 27 [(1, .one (.pl [(1, 0)] 0 0)), (7, .agg [.c (iC p.kind), .c (iC p.a), .c (iC p.b), .c (.sl 1 ((p.keep).map eInt)), .c (iC p.call.kind), .c (iC p.call.ask.kind), .c (sC p.call.ask.key), .c (sC p.call.ask.val), .c (sC p.call.ask.range.lo), .c (sC p.call.ask.range.hi), .c (iC p.call.ask.most), .c (bC p.call.ask.back)]), (8, iV 1048576)] [(1, [.bx [iC p.kind, iC p.a, iC p.b, .fz (.sl 1 ((p.keep).map eInt)), iC p.call.kind, iC p.call.ask.kind, sC p.call.ask.key, sC p.call.ask.val, sC p.call.ask.range.lo, sC p.call.ask.range.hi, iC p.call.ask.most, bC p.call.ask.back]])]) (by kernel_rfl) ?_
    refine ao_enter (f := 4) (d := 9) (A := [.agg [.c (iC p.kind), .c (iC p.a), .c (iC p.b), .c (.sl 1 ((p.keep).map eInt)), .c (iC p.call.kind), .c (iC p.call.ask.kind), .c (sC p.call.ask.key), .c (sC p.call.ask.val), .c (sC p.call.ask.range.lo), .c (sC p.call.ask.range.hi), .c (iC p.call.ask.most), .c (bC p.call.ask.back)], iV 1048576]) (st1 := mk 27 [(1, .one (.pl [(1, 0)] 0 0)), (9, iV (szStep p 1048576))] [(1, [.bx [iC p.kind, iC p.a, iC p.b, .fz (.sl 1 ((p.keep).map eInt)), iC p.call.kind, iC p.call.ask.kind, sC p.call.ask.key, sC p.call.ask.val, sC p.call.ask.range.lo, sC p.call.ask.range.hi, iC p.call.ask.most, bC p.call.ask.back]])]) [1, 9] (ok4 p 1048576 (hp)) Try.call4 (by kernel_rfl) (by kernel_rfl) (by kernel_rfl) ?_
    refine ao_some [3] [] [1, 3] tyOK (st1 := mk 27 [(1, .one (.pl [(1, 0)] 0 0)), (3, iV (szStep p 1048576))] [(1, [.bx [iC p.kind, iC p.a, iC p.b, .fz (.sl 1 ((p.keep).map eInt)), iC p.call.kind, iC p.call.ask.kind, sC p.call.ask.key, sC p.call.ask.val, sC p.call.ask.range.lo, sC p.call.ask.range.hi, iC p.call.ask.most, bC p.call.ask.back]])]) (by kernel_rfl) ?_
    refine ao_nil ?_
    refine a_seq ?_
    refine a_seq ?_
    refine a_run [1, 11] tyOK (st1 := mk 27 [(1, .one (.pl [(1, 0)] 0 0)), (11, bV (decide ((szStep p 1048576) < 0)))] [(1, [.bx [iC p.kind, iC p.a, iC p.b, .fz (.sl 1 ((p.keep).map eInt)), iC p.call.kind, iC p.call.ask.kind, sC p.call.ask.key, sC p.call.ask.val, sC p.call.ask.range.lo, sC p.call.ask.range.hi, iC p.call.ask.most, bC p.call.ask.back]])]) (by kernel_rfl) ?_
    refine a_cond (b := decide ((szStep p 1048576) < 0)) (by kernel_rfl) (fun h1 => ?_) (fun h1 => ?_)
    · have g1 := h1
      try simp only [decide_eq_true_eq, decide_eq_false_iff_not] at g1
      refine a_seq ?_
      refine a_run [2] tyOK (st1 := mk 27 [(2, bV true)] []) (by kernel_rfl) ?_
      refine a_ret ?_
      have e : lawStep p = true := by
          rfl
      exact end_eq (res' := bV true) (by kernel_rfl) (by rw [e] <;> rfl)
    · have g1 := h1
      try simp only [decide_eq_true_eq, decide_eq_false_iff_not] at g1
      refine a_skip ?_
      refine a_seq ?_
      refine a_ops [0, 1, 2, 3] (by kernel_rfl) ?_
      refine ao_some [0] [1, 2, 3] [1, 12] tyOK (st1 := mk 27 [(1, .one (.pl [(1, 0)] 0 0)), (12, .agg [.c (iC p.kind), .c (iC p.a), .c (iC p.b), .c (.sl 1 ((p.keep).map eInt)), .c (iC p.call.kind), .c (iC p.call.ask.kind), .c (sC p.call.ask.key), .c (sC p.call.ask.val), .c (sC p.call.ask.range.lo), .c (sC p.call.ask.range.hi), .c (iC p.call.ask.most), .c (bC p.call.ask.back)])] [(1, [.bx [iC p.kind, iC p.a, iC p.b, .fz (.sl 1 ((p.keep).map eInt)), iC p.call.kind, iC p.call.ask.kind, sC p.call.ask.key, sC p.call.ask.val, sC p.call.ask.range.lo, sC p.call.ask.range.hi, iC p.call.ask.most, bC p.call.ask.back]])]) (by kernel_rfl) ?_
      refine ao_enter (f := 6) (d := 13) (A := [.agg [.c (iC p.kind), .c (iC p.a), .c (iC p.b), .c (.sl 1 ((p.keep).map eInt)), .c (iC p.call.kind), .c (iC p.call.ask.kind), .c (sC p.call.ask.key), .c (sC p.call.ask.val), .c (sC p.call.ask.range.lo), .c (sC p.call.ask.range.hi), .c (iC p.call.ask.most), .c (bC p.call.ask.back)]]) (st1 := mk 27 [(1, .one (.pl [(1, 0)] 0 0)), (13, .agg [.c (iC ((toStep p).kind)), .c (iC ((toStep p).a)), .c (iC ((toStep p).b)), .c (.sl 1 (((toStep p).keep).map eInt)), .c (iC (((toStep p).call).kind)), .c (iC ((((toStep p).call).ask).kind)), .c (sC ((((toStep p).call).ask).key)), .c (sC ((((toStep p).call).ask).val)), .c (sC (((((toStep p).call).ask).range).lo)), .c (sC (((((toStep p).call).ask).range).hi)), .c (iC ((((toStep p).call).ask).most)), .c (bC ((((toStep p).call).ask).back))])] [(1, [.bx [iC p.kind, iC p.a, iC p.b, .fz (.sl 1 ((p.keep).map eInt)), iC p.call.kind, iC p.call.ask.kind, sC p.call.ask.key, sC p.call.ask.val, sC p.call.ask.range.lo, sC p.call.ask.range.hi, iC p.call.ask.most, bC p.call.ask.back]])]) [1, 13] (ok6 p (hp)) Try.call6 (by kernel_rfl) (by kernel_rfl) (by kernel_rfl) ?_
      refine ao_enter (f := 5) (d := 14) (A := [.agg [.c (iC ((toStep p).kind)), .c (iC ((toStep p).a)), .c (iC ((toStep p).b)), .c (.sl 1 (((toStep p).keep).map eInt)), .c (iC (((toStep p).call).kind)), .c (iC ((((toStep p).call).ask).kind)), .c (sC ((((toStep p).call).ask).key)), .c (sC ((((toStep p).call).ask).val)), .c (sC (((((toStep p).call).ask).range).lo)), .c (sC (((((toStep p).call).ask).range).hi)), .c (iC ((((toStep p).call).ask).most)), .c (bC ((((toStep p).call).ask).back))]]) (st1 := mk 27 [(1, .one (.pl [(1, 0)] 0 0)), (14, sV (stepS (toStep p)))] [(1, [.bx [iC p.kind, iC p.a, iC p.b, .fz (.sl 1 ((p.keep).map eInt)), iC p.call.kind, iC p.call.ask.kind, sC p.call.ask.key, sC p.call.ask.val, sC p.call.ask.range.lo, sC p.call.ask.range.hi, iC p.call.ask.most, bC p.call.ask.back]])]) [1, 14] (ok5 (toStep p) (step_len hp g1)) Try.call5 (by kernel_rfl) (by kernel_rfl) (by kernel_rfl) ?_
      refine ao_some [3] [] [1, 4] tyOK (st1 := mk 27 [(1, .one (.pl [(1, 0)] 0 0)), (4, sV (stepS (toStep p)))] [(1, [.bx [iC p.kind, iC p.a, iC p.b, .fz (.sl 1 ((p.keep).map eInt)), iC p.call.kind, iC p.call.ask.kind, sC p.call.ask.key, sC p.call.ask.val, sC p.call.ask.range.lo, sC p.call.ask.range.hi, iC p.call.ask.most, bC p.call.ask.back]])]) (by kernel_rfl) ?_
      refine ao_nil ?_
      refine a_seq ?_
      refine a_ops [0, 1, 2, 3] (by kernel_rfl) ?_
      refine ao_some [0] [1, 2, 3] [1, 4, 15] tyOK (st1 := mk 27 [(1, .one (.pl [(1, 0)] 0 0)), (4, sV (stepS (toStep p))), (15, .agg [.c (iC p.kind), .c (iC p.a), .c (iC p.b), .c (.sl 1 ((p.keep).map eInt)), .c (iC p.call.kind), .c (iC p.call.ask.kind), .c (sC p.call.ask.key), .c (sC p.call.ask.val), .c (sC p.call.ask.range.lo), .c (sC p.call.ask.range.hi), .c (iC p.call.ask.most), .c (bC p.call.ask.back)])] [(1, [.bx [iC p.kind, iC p.a, iC p.b, .fz (.sl 1 ((p.keep).map eInt)), iC p.call.kind, iC p.call.ask.kind, sC p.call.ask.key, sC p.call.ask.val, sC p.call.ask.range.lo, sC p.call.ask.range.hi, iC p.call.ask.most, bC p.call.ask.back]])]) (by kernel_rfl) ?_
      refine ao_enter (f := 6) (d := 16) (A := [.agg [.c (iC p.kind), .c (iC p.a), .c (iC p.b), .c (.sl 1 ((p.keep).map eInt)), .c (iC p.call.kind), .c (iC p.call.ask.kind), .c (sC p.call.ask.key), .c (sC p.call.ask.val), .c (sC p.call.ask.range.lo), .c (sC p.call.ask.range.hi), .c (iC p.call.ask.most), .c (bC p.call.ask.back)]]) (st1 := mk 27 [(1, .one (.pl [(1, 0)] 0 0)), (4, sV (stepS (toStep p))), (16, .agg [.c (iC ((toStep p).kind)), .c (iC ((toStep p).a)), .c (iC ((toStep p).b)), .c (.sl 1 (((toStep p).keep).map eInt)), .c (iC (((toStep p).call).kind)), .c (iC ((((toStep p).call).ask).kind)), .c (sC ((((toStep p).call).ask).key)), .c (sC ((((toStep p).call).ask).val)), .c (sC (((((toStep p).call).ask).range).lo)), .c (sC (((((toStep p).call).ask).range).hi)), .c (iC ((((toStep p).call).ask).most)), .c (bC ((((toStep p).call).ask).back))])] [(1, [.bx [iC p.kind, iC p.a, iC p.b, .fz (.sl 1 ((p.keep).map eInt)), iC p.call.kind, iC p.call.ask.kind, sC p.call.ask.key, sC p.call.ask.val, sC p.call.ask.range.lo, sC p.call.ask.range.hi, iC p.call.ask.most, bC p.call.ask.back]])]) [1, 4, 16] (ok6 p (hp)) Try.call6 (by kernel_rfl) (by kernel_rfl) (by kernel_rfl) ?_
      refine ao_some [2, 3] [] [1, 4, 5] tyOK (st1 := mk 27 [(1, .one (.pl [(1, 0)] 0 0)), (4, sV (stepS (toStep p))), (5, .one (.pl [(5, 0)] 0 0))] [(1, [.bx [iC p.kind, iC p.a, iC p.b, .fz (.sl 1 ((p.keep).map eInt)), iC p.call.kind, iC p.call.ask.kind, sC p.call.ask.key, sC p.call.ask.val, sC p.call.ask.range.lo, sC p.call.ask.range.hi, iC p.call.ask.most, bC p.call.ask.back]]), (5, [.bx [iC ((toStep p).kind), iC ((toStep p).a), iC ((toStep p).b), .fz (.sl 1 (((toStep p).keep).map eInt)), iC (((toStep p).call).kind), iC ((((toStep p).call).ask).kind), sC ((((toStep p).call).ask).key), sC ((((toStep p).call).ask).val), sC (((((toStep p).call).ask).range).lo), sC (((((toStep p).call).ask).range).hi), iC ((((toStep p).call).ask).most), bC ((((toStep p).call).ask).back)]])]) (by kernel_rfl) ?_
      refine ao_nil ?_
      refine a_seq ?_
      refine a_ops [0, 1, 2] (by kernel_rfl) ?_
      refine ao_some [0] [1, 2] [1, 4, 5, 17] tyOK (st1 := mk 27 [(1, .one (.pl [(1, 0)] 0 0)), (4, sV (stepS (toStep p))), (5, .one (.pl [(5, 0)] 0 0)), (17, .agg [.c (iC ((toStep p).kind)), .c (iC ((toStep p).a)), .c (iC ((toStep p).b)), .c (.sl 1 (((toStep p).keep).map eInt)), .c (iC (((toStep p).call).kind)), .c (iC ((((toStep p).call).ask).kind)), .c (sC ((((toStep p).call).ask).key)), .c (sC ((((toStep p).call).ask).val)), .c (sC (((((toStep p).call).ask).range).lo)), .c (sC (((((toStep p).call).ask).range).hi)), .c (iC ((((toStep p).call).ask).most)), .c (bC ((((toStep p).call).ask).back))])] [(1, [.bx [iC p.kind, iC p.a, iC p.b, .fz (.sl 1 ((p.keep).map eInt)), iC p.call.kind, iC p.call.ask.kind, sC p.call.ask.key, sC p.call.ask.val, sC p.call.ask.range.lo, sC p.call.ask.range.hi, iC p.call.ask.most, bC p.call.ask.back]]), (5, [.bx [iC ((toStep p).kind), iC ((toStep p).a), iC ((toStep p).b), .fz (.sl 1 (((toStep p).keep).map eInt)), iC (((toStep p).call).kind), iC ((((toStep p).call).ask).kind), sC ((((toStep p).call).ask).key), sC ((((toStep p).call).ask).val), sC (((((toStep p).call).ask).range).lo), sC (((((toStep p).call).ask).range).hi), iC ((((toStep p).call).ask).most), bC ((((toStep p).call).ask).back)]])]) (by kernel_rfl) ?_
      refine ao_enter (f := 7) (d := 18) (A := [.agg [.c (iC ((toStep p).kind)), .c (iC ((toStep p).a)), .c (iC ((toStep p).b)), .c (.sl 1 (((toStep p).keep).map eInt)), .c (iC (((toStep p).call).kind)), .c (iC ((((toStep p).call).ask).kind)), .c (sC ((((toStep p).call).ask).key)), .c (sC ((((toStep p).call).ask).val)), .c (sC (((((toStep p).call).ask).range).lo)), .c (sC (((((toStep p).call).ask).range).hi)), .c (iC ((((toStep p).call).ask).most)), .c (bC ((((toStep p).call).ask).back))]]) (st1 := mk 27 [(1, .one (.pl [(1, 0)] 0 0)), (4, sV (stepS (toStep p))), (5, .one (.pl [(5, 0)] 0 0)), (18, sV (stepI (toStep p)))] [(1, [.bx [iC p.kind, iC p.a, iC p.b, .fz (.sl 1 ((p.keep).map eInt)), iC p.call.kind, iC p.call.ask.kind, sC p.call.ask.key, sC p.call.ask.val, sC p.call.ask.range.lo, sC p.call.ask.range.hi, iC p.call.ask.most, bC p.call.ask.back]]), (5, [.bx [iC ((toStep p).kind), iC ((toStep p).a), iC ((toStep p).b), .fz (.sl 1 (((toStep p).keep).map eInt)), iC (((toStep p).call).kind), iC ((((toStep p).call).ask).kind), sC ((((toStep p).call).ask).key), sC ((((toStep p).call).ask).val), sC (((((toStep p).call).ask).range).lo), sC (((((toStep p).call).ask).range).hi), iC ((((toStep p).call).ask).most), bC ((((toStep p).call).ask).back)]])]) [1, 4, 5, 18] (ok7 (toStep p) (step_len hp g1)) Try.call7 (by kernel_rfl) (by kernel_rfl) (by kernel_rfl) ?_
      refine ao_some [2] [] [1, 4, 5, 6] tyOK (st1 := mk 27 [(1, .one (.pl [(1, 0)] 0 0)), (4, sV (stepS (toStep p))), (5, .one (.pl [(5, 0)] 0 0)), (6, sV (stepI (toStep p)))] [(1, [.bx [iC p.kind, iC p.a, iC p.b, .fz (.sl 1 ((p.keep).map eInt)), iC p.call.kind, iC p.call.ask.kind, sC p.call.ask.key, sC p.call.ask.val, sC p.call.ask.range.lo, sC p.call.ask.range.hi, iC p.call.ask.most, bC p.call.ask.back]]), (5, [.bx [iC ((toStep p).kind), iC ((toStep p).a), iC ((toStep p).b), .fz (.sl 1 (((toStep p).keep).map eInt)), iC (((toStep p).call).kind), iC ((((toStep p).call).ask).kind), sC ((((toStep p).call).ask).key), sC ((((toStep p).call).ask).val), sC (((((toStep p).call).ask).range).lo), sC (((((toStep p).call).ask).range).hi), iC ((((toStep p).call).ask).most), bC ((((toStep p).call).ask).back)]])]) (by kernel_rfl) ?_
      refine ao_nil ?_
      refine a_seq ?_
      refine a_seq ?_
      refine a_run [1, 5, 21] tyOK (st1 := mk 27 [(1, .one (.pl [(1, 0)] 0 0)), (5, .one (.pl [(5, 0)] 0 0)), (21, bV (!((stepI (toStep p)).toList == (stepS (toStep p)).toList)))] [(1, [.bx [iC p.kind, iC p.a, iC p.b, .fz (.sl 1 ((p.keep).map eInt)), iC p.call.kind, iC p.call.ask.kind, sC p.call.ask.key, sC p.call.ask.val, sC p.call.ask.range.lo, sC p.call.ask.range.hi, iC p.call.ask.most, bC p.call.ask.back]]), (5, [.bx [iC ((toStep p).kind), iC ((toStep p).a), iC ((toStep p).b), .fz (.sl 1 (((toStep p).keep).map eInt)), iC (((toStep p).call).kind), iC ((((toStep p).call).ask).kind), sC ((((toStep p).call).ask).key), sC ((((toStep p).call).ask).val), sC (((((toStep p).call).ask).range).lo), sC (((((toStep p).call).ask).range).hi), iC ((((toStep p).call).ask).most), bC ((((toStep p).call).ask).back)]])]) (by kernel_rfl) ?_
      refine a_cond (b := !((stepI (toStep p)).toList == (stepS (toStep p)).toList)) (by kernel_rfl) (fun h2 => ?_) (fun h2 => ?_)
      · have g2 := h2
        try simp only [beq_iff_eq, beq_eq_false_iff_ne, Bool.not_eq_true, Bool.not_eq_false, Bool.not_eq_true'] at g2
        refine a_seq ?_
        refine a_run [2] tyOK (st1 := mk 27 [(2, bV false)] []) (by kernel_rfl) ?_
        refine a_ret ?_
        have e : lawStep p = false := by
            rw [stepI_eq] at h2; simp at h2
        exact end_eq (res' := bV false) (by kernel_rfl) (by rw [e] <;> rfl)
      · have g2 := h2
        try simp only [beq_iff_eq, beq_eq_false_iff_ne, Bool.not_eq_true, Bool.not_eq_false, Bool.not_eq_true'] at g2
        refine a_skip ?_
        refine a_seq ?_
        refine a_seq ?_
        refine a_mid (mk 27 [(26, bV (!(eqStep (toStep p) (toStep p))))] []) ?_ ?_
        · refine a_drawn (n := 5) [] (by kernel_rfl) (by kernel_rfl) ?_
          refine aa_take (fuel := 3) (listed' := #[true, true, false, false, false]) (st' := mk 27 [(22, .agg [.c (iC ((toStep p).kind)), .c (iC ((toStep p).a)), .c (iC ((toStep p).b)), .c (.sl 1 (((toStep p).keep).map eInt)), .c (iC (((toStep p).call).kind)), .c (iC ((((toStep p).call).ask).kind)), .c (sC ((((toStep p).call).ask).key)), .c (sC ((((toStep p).call).ask).val)), .c (sC (((((toStep p).call).ask).range).lo)), .c (sC (((((toStep p).call).ask).range).hi)), .c (iC ((((toStep p).call).ask).most)), .c (bC ((((toStep p).call).ask).back))]), (23, .agg [.c (iC p.kind), .c (iC p.a), .c (iC p.b), .c (.sl 1 ((p.keep).map eInt)), .c (iC p.call.kind), .c (iC p.call.ask.kind), .c (sC p.call.ask.key), .c (sC p.call.ask.val), .c (sC p.call.ask.range.lo), .c (sC p.call.ask.range.hi), .c (iC p.call.ask.most), .c (bC p.call.ask.back)])] []) [0, 1] [22, 23] tyOK (by kernel_rfl) (by kernel_rfl) (by kernel_rfl) ?_
          refine aa_all [2] (by kernel_rfl) rfl ?_
          refine aa_cons ?_ aa_nil
          refine aone_enter (listed' := #[true, true, true, false, false]) (f := 6) (d := 24) (A := [.agg [.c (iC p.kind), .c (iC p.a), .c (iC p.b), .c (.sl 1 ((p.keep).map eInt)), .c (iC p.call.kind), .c (iC p.call.ask.kind), .c (sC p.call.ask.key), .c (sC p.call.ask.val), .c (sC p.call.ask.range.lo), .c (sC p.call.ask.range.hi), .c (iC p.call.ask.most), .c (bC p.call.ask.back)]]) (st1 := mk 27 [(22, .agg [.c (iC ((toStep p).kind)), .c (iC ((toStep p).a)), .c (iC ((toStep p).b)), .c (.sl 1 (((toStep p).keep).map eInt)), .c (iC (((toStep p).call).kind)), .c (iC ((((toStep p).call).ask).kind)), .c (sC ((((toStep p).call).ask).key)), .c (sC ((((toStep p).call).ask).val)), .c (sC (((((toStep p).call).ask).range).lo)), .c (sC (((((toStep p).call).ask).range).hi)), .c (iC ((((toStep p).call).ask).most)), .c (bC ((((toStep p).call).ask).back))]), (24, .agg [.c (iC ((toStep p).kind)), .c (iC ((toStep p).a)), .c (iC ((toStep p).b)), .c (.sl 1 (((toStep p).keep).map eInt)), .c (iC (((toStep p).call).kind)), .c (iC ((((toStep p).call).ask).kind)), .c (sC ((((toStep p).call).ask).key)), .c (sC ((((toStep p).call).ask).val)), .c (sC (((((toStep p).call).ask).range).lo)), .c (sC (((((toStep p).call).ask).range).hi)), .c (iC ((((toStep p).call).ask).most)), .c (bC ((((toStep p).call).ask).back))])] []) [22, 24] (ok6 p (hp)) Try.call6 (by kernel_rfl) (by kernel_rfl) (by kernel_rfl) (by kernel_rfl) ?_
          refine aa_all [3] (by kernel_rfl) rfl ?_
          refine aa_cons ?_ aa_nil
          refine aone_enter (listed' := #[true, true, true, true, false]) (f := 8) (d := 25) (A := [.agg [.c (iC ((toStep p).kind)), .c (iC ((toStep p).a)), .c (iC ((toStep p).b)), .c (.sl 1 (((toStep p).keep).map eInt)), .c (iC (((toStep p).call).kind)), .c (iC ((((toStep p).call).ask).kind)), .c (sC ((((toStep p).call).ask).key)), .c (sC ((((toStep p).call).ask).val)), .c (sC (((((toStep p).call).ask).range).lo)), .c (sC (((((toStep p).call).ask).range).hi)), .c (iC ((((toStep p).call).ask).most)), .c (bC ((((toStep p).call).ask).back))], .agg [.c (iC ((toStep p).kind)), .c (iC ((toStep p).a)), .c (iC ((toStep p).b)), .c (.sl 1 (((toStep p).keep).map eInt)), .c (iC (((toStep p).call).kind)), .c (iC ((((toStep p).call).ask).kind)), .c (sC ((((toStep p).call).ask).key)), .c (sC ((((toStep p).call).ask).val)), .c (sC (((((toStep p).call).ask).range).lo)), .c (sC (((((toStep p).call).ask).range).hi)), .c (iC ((((toStep p).call).ask).most)), .c (bC ((((toStep p).call).ask).back))]]) (st1 := mk 27 [(25, bV (eqStep (toStep p) (toStep p)))] []) [25] (ok8 (toStep p) (toStep p) (hp)) Try.call8 (by kernel_rfl) (by kernel_rfl) (by kernel_rfl) (by kernel_rfl) ?_
          refine aa_take (fuel := 0) (listed' := #[true, true, true, true, true]) (st' := mk 27 [(26, bV (!(eqStep (toStep p) (toStep p))))] []) [4] [26] tyOK (by kernel_rfl) (by kernel_rfl) (by kernel_rfl) ?_
          refine aa_done (by kernel_rfl) ?_
          show _ = _; kernel_rfl
        refine a_cond (b := !(eqStep (toStep p) (toStep p))) (by kernel_rfl) (fun h3 => ?_) (fun h3 => ?_)
        · have g3 := h3
          try simp only [Bool.not_eq_true, Bool.not_eq_false, Bool.not_eq_true'] at g3
          refine a_seq ?_
          refine a_run [2] tyOK (st1 := mk 27 [(2, bV false)] []) (by kernel_rfl) ?_
          refine a_ret ?_
          have e : lawStep p = false := by
              rw [eqStep_self] at h3; simp at h3
          exact end_eq (res' := bV false) (by kernel_rfl) (by rw [e] <;> rfl)
        · have g3 := h3
          try simp only [Bool.not_eq_true, Bool.not_eq_false, Bool.not_eq_true'] at g3
          refine a_skip ?_
          refine a_seq ?_
          refine a_run [2] tyOK (st1 := mk 27 [(2, bV true)] []) (by kernel_rfl) ?_
          refine a_ret ?_
          have e : lawStep p = true := by
              rfl
          exact end_eq (res' := bV true) (by kernel_rfl) (by rw [e] <;> rfl)



end Go.Proofs.Ytabgoibmnjikkaa
namespace Go.Proofs.Ytabgoibmnjikkaa.Row9
open Go.ChangeShapes Go.WideShapes Go.ChangeAt Go.RowKit Go.Mv
open Go.ChangeMaps (open_string shut_string)
theorem own : ownKnob Try.prog.godebug = none := by kernel_rfl
theorem laidOut : laidOutB Try.prog = true := by kernel_rfl
set_option maxRecDepth 100000 in
theorem opens3 : Opens Try.prog 3 (fun n : Int => [.v (.int .i64 n)]) (fun n => (Lit.int .i64 n).wf = true) := opens_int Try.underlying3
set_option maxRecDepth 100000 in
theorem opens4 : Opens Try.prog 4 (fun b : Bool => [bC b]) (fun _ => True) := opens_bool Try.underlying4
set_option maxRecDepth 100000 in
theorem opens9 : Opens Try.prog 9 (fun s : ByteArray => [sC s]) (fun s => s.size ≤ 140737488351232) := opens_string Try.underlying9
set_option maxRecDepth 100000 in
theorem opens24 : Opens Try.prog 24 eRange okRange :=
  opens_struct Try.underlying24 (fun H enc W fuel cs h1 h2 => by
    obtain ⟨y, k1, k2⟩ := (opensF_cons (P := Try.prog) (off := 0) (fs := [(1, 9)]) opens9 (by kernel_rfl : Try.prog.cellsOf 9 = 1) (opensF_cons (P := Try.prog) (off := 1) (fs := []) opens9 (by kernel_rfl : Try.prog.cellsOf 9 = 1) (opensF_nil))) H enc W fuel cs h1 h2
    exact ⟨⟨y.1, y.2.1⟩, by simpa [eRange] using k1, by (unfold okRange; exact ⟨k2.1, k2.2.1⟩)⟩) (by kernel_rfl)
set_option maxRecDepth 100000 in
theorem opens26 : Opens Try.prog 26 eAsk okAsk :=
  opens_struct Try.underlying26 (fun H enc W fuel cs h1 h2 => by
    obtain ⟨y, k1, k2⟩ := (opensF_cons (P := Try.prog) (off := 0) (fs := [(1, 9), (2, 9), (3, 24), (5, 3), (6, 4)]) opens3 (by kernel_rfl : Try.prog.cellsOf 3 = 1) (opensF_cons (P := Try.prog) (off := 1) (fs := [(2, 9), (3, 24), (5, 3), (6, 4)]) opens9 (by kernel_rfl : Try.prog.cellsOf 9 = 1) (opensF_cons (P := Try.prog) (off := 2) (fs := [(3, 24), (5, 3), (6, 4)]) opens9 (by kernel_rfl : Try.prog.cellsOf 9 = 1) (opensF_cons (P := Try.prog) (off := 3) (fs := [(5, 3), (6, 4)]) opens24 (by kernel_rfl : Try.prog.cellsOf 24 = 2) (opensF_cons (P := Try.prog) (off := 5) (fs := [(6, 4)]) opens3 (by kernel_rfl : Try.prog.cellsOf 3 = 1) (opensF_cons (P := Try.prog) (off := 6) (fs := []) opens4 (by kernel_rfl : Try.prog.cellsOf 4 = 1) (opensF_nil))))))) H enc W fuel cs h1 h2
    exact ⟨⟨y.1, y.2.1, y.2.2.1, y.2.2.2.1, y.2.2.2.2.1, y.2.2.2.2.2.1⟩, by simpa [eAsk, eRange] using k1, by (unfold okAsk; exact ⟨k2.2.1, k2.2.2.1, k2.2.2.2.1⟩)⟩) (by kernel_rfl)
set_option maxRecDepth 100000 in
theorem opens28 : Opens Try.prog 28 eCallR okCall :=
  opens_struct Try.underlying28 (fun H enc W fuel cs h1 h2 => by
    obtain ⟨y, k1, k2⟩ := (opensF_cons (P := Try.prog) (off := 0) (fs := [(1, 26)]) opens3 (by kernel_rfl : Try.prog.cellsOf 3 = 1) (opensF_cons (P := Try.prog) (off := 1) (fs := []) opens26 (by kernel_rfl : Try.prog.cellsOf 26 = 7) (opensF_nil))) H enc W fuel cs h1 h2
    exact ⟨⟨y.1, y.2.1⟩, by simpa [eAsk, eCallR, eRange] using k1, by (unfold okCall; exact k2.2.1)⟩) (by kernel_rfl)
set_option maxRecDepth 100000 in
theorem opens22 : Opens Try.prog 22 (fun xs : List Int => [.sl 1 (xs.map eInt)]) (fun xs => xs.length * 8 ≤ 140737488351232 ∧ ∀ x ∈ xs, (fun n => (Lit.int .i64 n).wf = true) x) := opens_slice Try.underlying22 (by kernel_rfl) (by kernel_rfl) (by decide) opens3
set_option maxRecDepth 100000 in
theorem opens30 : Opens Try.prog 30 eStep okStep :=
  opens_struct Try.underlying30 (fun H enc W fuel cs h1 h2 => by
    obtain ⟨y, k1, k2⟩ := (opensF_cons (P := Try.prog) (off := 0) (fs := [(1, 3), (2, 3), (3, 22), (4, 28)]) opens3 (by kernel_rfl : Try.prog.cellsOf 3 = 1) (opensF_cons (P := Try.prog) (off := 1) (fs := [(2, 3), (3, 22), (4, 28)]) opens3 (by kernel_rfl : Try.prog.cellsOf 3 = 1) (opensF_cons (P := Try.prog) (off := 2) (fs := [(3, 22), (4, 28)]) opens3 (by kernel_rfl : Try.prog.cellsOf 3 = 1) (opensF_cons (P := Try.prog) (off := 3) (fs := [(4, 28)]) opens22 (by kernel_rfl : Try.prog.cellsOf 22 = 1) (opensF_cons (P := Try.prog) (off := 4) (fs := []) opens28 (by kernel_rfl : Try.prog.cellsOf 28 = 8) (opensF_nil)))))) H enc W fuel cs h1 h2
    exact ⟨⟨y.1, y.2.1, y.2.2.1, y.2.2.2.1, y.2.2.2.2.1⟩, by simpa [eAsk, eCallR, eRange, eStep] using k1, by (unfold okStep; exact ⟨k2.2.2.2.1.1, k2.2.2.2.2.1⟩)⟩) (by kernel_rfl)
set_option maxRecDepth 100000 in
theorem lifted (os : Os) (started : os.Started) (H : Type) (enc : TypeId × Value → H) :
    ReturnsInHanded {} Try.checked os 3 .any (Rows.fnExactStepTextSpec.pre6 enc Try.prog Try.f3 Rows.fnExactStepTextRow.domain false) (Rows.fnExactStepTextSpec.post enc Try.prog Try.f3 false true false false) := by
  refine returnsInHanded_of_change_sized (C := Try.checked) own started (by kernel_rfl) Try.func3
    (ChangeSpec.witness6 (enc := enc) (C := Try.checked) false ⟨#[], #[.agg #[.int .i64 0, .int .i64 0, .int .i64 0, .slice none 0 0, .int .i64 0, .int .i64 0, .string ⟨#[]⟩, .string ⟨#[]⟩, .string ⟨#[]⟩, .string ⟨#[]⟩, .int .i64 0, .bool false]], []⟩ 8 (by kernel_rfl) (by kernel_rfl) (by kernel_rfl) (by kernel_rfl)) ?_
  intro W base args ds gs before hval0 hW hcnd hsz0 _
  have hsz : (DataW.weightsEach Try.prog (Try.f3.params.toList ++ Rows.fnExactStepTextSpec.plain.varTypes Try.prog) (ds ++ gs)).all (· ≤ reachBytes) = true := hsz0
  have hval : ∀ (j : Nat) t v, Try.f3.params[j]? = some t → args[j]? = some v → Value.okWide Try.prog W .any base t v := hval0
  have hW' := hW
  obtain ⟨p, q, hA0, hV, rfl, hfz, hnd⟩ := hW
  have hA : DataW.TrodAll enc Try.prog W 0 (fun _ => true) true Try.f3.params.toList args.toList ds p := hA0
  rw [Try.params3] at hA hval hsz
  obtain ⟨v0, vs0, d0, ds0, p0, q0, hargs, rfl, rfl, h0, r0⟩ := trodAll_cons hA
  obtain ⟨rfl, rfl, rfl⟩ := trodAll_nil r0
  obtain rfl : args = #[v0] := by cases args; simp_all
  obtain ⟨rfl, rfl⟩ := trodVars_none hV
  have k0 := h0
  have lt0 : ∀ x ∈ p0, x.block < W.heap.size := by obtain ⟨m, hm⟩ := k0; exact DataW.trod_lt m _ _ _ hm
  have wt0 : ∀ n ∈ d0.weights Try.prog 30, n ≤ 140737488351232 := fun n hn => by have := List.all_eq_true.1 hsz n (DataW.weights_mem_each (j := 0) (t := 30) rfl rfl n hn); exact of_decide_eq_true this
  obtain ⟨c0, e0, _, _⟩ : ∃ cs, v0 = .agg cs ∧ cs.size = _ ∧ _ := by have := (hval 0 30 v0 rfl rfl); simpa only [Value.okWide, Try.underlying30] using this
  subst e0
  obtain ⟨m0, hf0⟩ := h0
  obtain ⟨y0, z0, o0⟩ := opens30 H enc W m0 _ _ hf0 wt0
  have tv0 : TVVal W (fun b => b < W.heap.size) (fun _ => none) (.agg [.c (iC y0.kind), .c (iC y0.a), .c (iC y0.b), .c (.sl 1 ((y0.keep).map eInt)), .c (iC y0.call.kind), .c (iC y0.call.ask.kind), .c (sC y0.call.ask.key), .c (sC y0.call.ask.val), .c (sC y0.call.ask.range.lo), .c (sC y0.call.ask.range.hi), .c (iC y0.call.ask.most), .c (bC y0.call.ask.back)]) (.agg c0) := ⟨c0.toList, by simp, RepFs.told z0⟩
  clear hA0 hval0 hsz0
  refine (ok3 y0 (o0) W (fun b => b < W.heap.size) [.agg c0] (fun b hb => hb) (.cons tv0 .nil)).mono fun e W' ⟨v, he, ret⟩ => ?_
  subst he
  obtain ⟨bel, _, _, _, _, _, _, hv, _⟩ := ret
  have hv := one_v hv
  subst hv
  exact ⟨_, rfl, _, _, _, [], _, [], hW', trodAll_mk1 (shut_bool Try.underlying4 _), (trodAll_cons_mk (Below.trod laidOut (by kernel_rfl) (of_decide_eq_true (by kernel_rfl)) k0 bel lt0) trodAll_mk0), rfl, bel.frame _, fun h => by cases h⟩
theorem over : Rows.fnExactStepTextRow.holds Try.pinned (OpenSpec.ofChange Rows.fnExactStepTextSpec) :=
  OpenClaim.holds_of_wide 3 Try.f3 rfl rfl rfl rfl rfl rfl rfl ⟨rfl, rfl, rfl, rfl, rfl⟩ rfl rfl rfl rfl rfl (by kernel_rfl) Try.func3 (by kernel_rfl)
    (of_decide_eq_true (by kernel_rfl)) (by unfold Func.isWrapper; first | (rw [if_pos (by decide +kernel)]; kernel_rfl) | (rw [if_neg (by decide +kernel)]; exact ⟨rfl, rfl⟩))
    (fun os started H enc _ => lifted os started H enc)
theorem proved : Rows.FnExactStepTextSaid := over
end Go.Proofs.Ytabgoibmnjikkaa.Row9
