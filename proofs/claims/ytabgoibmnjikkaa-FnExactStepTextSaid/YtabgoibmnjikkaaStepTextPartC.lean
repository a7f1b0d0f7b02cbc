/- What functions of the given program compute, each proved once, for the law that is proved in YtabgoibmnjikkaaStepText: whatever their arguments, under the conditions that each theorem names. -/
import Derived.Shelf.Strings.OnBuilder
import Derived.Test.YtabgoibmnjikkaaMvIII
import Derived.Test.YtabgoibmnjikkaaProg
import Derived.Test.YtabgoibmnjikkaaStepTextPartA
import Derived.Test.YtabgoibmnjikkaaStepTextPartB
set_option linter.unusedVariables false
set_option linter.unusedSimpArgs false
namespace Go.Proofs.Ytabgoibmnjikkaa
open Go.Mv Go.RowKit

theorem callText_size (c : CallR) : (callText c).size ≤ 1048576 := by
  have h : (callText c).size ≤ 2 ^ 20 := by
    unfold callText
    repeat (first | with_reducible refine app_le ?_ ?_ | with_reducible refine cond_le ?_ ?_ | with_reducible refine le2 (numText_size _) ?_ | with_reducible refine le2 (quote_size _) ?_ | with_reducible refine lit_le ?_ | exact Eq.refl true)
  exact h
theorem wordsS_len : wordsS.length = 10 := rfl
theorem wordEl_size (n : Int) : (el wordsS n).size ≤ 7 := by
  unfold el
  generalize n.toNat = k
  by_cases h : k < 10
  · have : ∀ j : Fin 10, ((wordsS[j.1]?).getD default).size ≤ 7 := by decide
    exact this ⟨k, h⟩
  · rw [List.getElem?_eq_none (by rw [wordsS_len]; omega)]
    exact Nat.zero_le _
def c1S (p : Step) : Bool := bif (decide (p.kind < 1)) then true else (bif (decide (p.kind > 9)) then true else (bif (!(l01Num p.a)) then true else (!(l01Num p.b))))
def askE (q : Ask) : Bool := ((q.kind == 0) && ((q.key.toList == ((⟨#[]⟩ : ByteArray)).toList) && ((q.val.toList == ((⟨#[]⟩ : ByteArray)).toList) && ((q.range.lo.toList == ((⟨#[]⟩ : ByteArray)).toList) && ((q.range.hi.toList == ((⟨#[]⟩ : ByteArray)).toList) && ((q.most == 0) && ((q.back == false) && true)))))))
def c2I (p : Step) : Bool := bif ((p.kind != 7)) then (bif ((p.b != 0)) then true else (bif (decide ((((((p.keep).map eInt).length : Nat) : Int)) > 0)) then true else (bif ((p.kind == 5)) then ((p.a != 0)) else false))) else (bif ((p.kind == 5)) then ((p.a != 0)) else false)
def c2S (p : Step) : Bool := bif ((p.kind != 1)) then (bif ((p.call.kind != 0)) then true else (bif (!(askE p.call.ask)) then true else c2I p)) else c2I p
theorem kindS {p : Step} (h : c1S p = false) : 1 ≤ p.kind ∧ p.kind ≤ 9 ∧ l01Num p.a = true ∧ l01Num p.b = true := by
  unfold c1S at h
  by_cases h1 : p.kind < 1 <;> by_cases h2 : p.kind > 9 <;> cases h3 : l01Num p.a <;> cases h4 : l01Num p.b <;> simp [h1, h2, h3, h4] at h <;> exact ⟨by omega, by omega, rfl, rfl⟩
def headW (p : Step) : ByteArray := bif ((p.kind == 7)) then (((bif ((p.kind != 5)) then (((el (wordsS) p.kind) ++ ((⟨#[32]⟩ : ByteArray))) ++ (numText p.a)) else (el (wordsS) p.kind)) ++ ((⟨#[32]⟩ : ByteArray))) ++ (numText p.b)) else (bif ((p.kind != 5)) then (((el (wordsS) p.kind) ++ ((⟨#[32]⟩ : ByteArray))) ++ (numText p.a)) else (el (wordsS) p.kind))
theorem headW_size (p : Step) : (headW p).size ≤ 100 := by
  have h1 := wordEl_size p.kind
  have h2 := numText_size p.a
  have h3 := numText_size p.b
  unfold headW
  cases (p.kind == 7) <;> cases (p.kind != 5) <;> simp only [cond_true, cond_false, ByteArray.size_append, mv_size_mk, List.size_toArray, List.length_cons, List.length_nil] <;> omega
def keepT : List Int → ByteArray → ByteArray
  | [], o => o
  | n :: ns, o => keepT ns ((o ++ ⟨#[32]⟩) ++ numText n)
def stepS (p : Step) : ByteArray := bif c1S p then ⟨#[]⟩ else bif c2S p then ⟨#[]⟩ else bif !(p.keep.all l01Num) then ⟨#[]⟩ else
  bif (p.kind == 1) then (bif ((callText p.call).toList == (⟨#[]⟩ : ByteArray).toList) then ⟨#[]⟩ else (keepT p.keep (headW p) ++ ⟨#[32]⟩) ++ callText p.call) else keepT p.keep (headW p)

structure L5_1 (p : Step) where
  k : Nat
  o : ByteArray
  inv : k ≤ p.keep.length ∧ o.size ≤ 100 + 14 * k ∧ (p.keep.drop k).all l01Num = p.keep.all l01Num ∧ keepT (p.keep.drop k) o = keepT p.keep (headW p)

set_option maxHeartbeats 2000000 in
/-- spec.StepText -/
theorem ok5 (p : Step) (hp : p.keep.length ≤ 1048576) : CallOK Try.prog 5 [.agg [.c (iC p.kind), .c (iC p.a), .c (iC p.b), .c (.sl 1 ((p.keep).map eInt)), .c (iC p.call.kind), .c (iC p.call.ask.kind), .c (sC p.call.ask.key), .c (sC p.call.ask.val), .c (sC p.call.ask.range.lo), .c (sC p.call.ask.range.hi), .c (iC p.call.ask.most), .c (bC p.call.ask.back)]] (sV (stepS p)) [] :=
  callOK tyOK Try.func5 rfl fun w S hS => by
    refine a_seq ?_
    refine a_run [1] tyOK (st1 := mk 123 [(1, .one (.pl [(1, 0)] 0 0))] [(1, [.bx [iC p.kind, iC p.a, iC p.b, .fz (.sl 1 ((p.keep).map eInt)), iC p.call.kind, iC p.call.ask.kind, sC p.call.ask.key, sC p.call.ask.val, sC p.call.ask.range.lo, sC p.call.ask.range.hi, iC p.call.ask.most, bC p.call.ask.back]])]) (by as_aux_lemma => kernel_rfl) ?_
    refine a_seq ?_
    refine a_run [1, 3] tyOK (st1 := mk 123 [(1, .one (.pl [(1, 0)] 0 0)), (3, .one (.pl [(3, 0)] 0 0))] [(1, [.bx [iC p.kind, iC p.a, iC p.b, .fz (.sl 1 ((p.keep).map eInt)), iC p.call.kind, iC p.call.ask.kind, sC p.call.ask.key, sC p.call.ask.val, sC p.call.ask.range.lo, sC p.call.ask.range.hi, iC p.call.ask.most, bC p.call.ask.back]]), (3, [.bx [iC 0, sC ((⟨#[]⟩ : ByteArray)), sC ((⟨#[]⟩ : ByteArray)), sC ((⟨#[]⟩ : ByteArray)), sC ((⟨#[]⟩ : ByteArray)), iC 0, bC false]])]) (by as_aux_lemma => kernel_rfl) ?_
    refine a_seq ?_
    refine a_seq ?_
    refine a_mid (mk 123 [(1, .one (.pl [(1, 0)] 0 0)), (3, .one (.pl [(3, 0)] 0 0)), (28, bV (bif (decide (p.kind < 1)) then true else (bif (decide (p.kind > 9)) then true else (bif (!(l01Num p.a)) then true else (!(l01Num p.b))))))] [(1, [.bx [iC p.kind, iC p.a, iC p.b, .fz (.sl 1 ((p.keep).map eInt)), iC p.call.kind, iC p.call.ask.kind, sC p.call.ask.key, sC p.call.ask.val, sC p.call.ask.range.lo, sC p.call.ask.range.hi, iC p.call.ask.most, bC p.call.ask.back]]), (3, [.bx [iC 0, sC ((⟨#[]⟩ : ByteArray)), sC ((⟨#[]⟩ : ByteArray)), sC ((⟨#[]⟩ : ByteArray)), sC ((⟨#[]⟩ : ByteArray)), iC 0, bC false]])]) ?_ ?_
    · refine a_ops [0, 1, 2, 3, 4, 5, 6, 7, 8, 9, 10, 11, 12, 13, 14, 15, 16, 17, 18, 19] (by as_aux_lemma => kernel_rfl) ?_
      refine ao_some [0, 1, 2, 3] [4, 5, 6, 7, 8, 9, 10, 11, 12, 13, 14, 15, 16, 17, 18, 19] [1, 3, 12] tyOK (st1 := mk 123 [(1, .one (.pl [(1, 0)] 0 0)), (3, .one (.pl [(3, 0)] 0 0)), (12, bV (decide (p.kind < 1)))] [(1, [.bx [iC p.kind, iC p.a, iC p.b, .fz (.sl 1 ((p.keep).map eInt)), iC p.call.kind, iC p.call.ask.kind, sC p.call.ask.key, sC p.call.ask.val, sC p.call.ask.range.lo, sC p.call.ask.range.hi, iC p.call.ask.most, bC p.call.ask.back]]), (3, [.bx [iC 0, sC ((⟨#[]⟩ : ByteArray)), sC ((⟨#[]⟩ : ByteArray)), sC ((⟨#[]⟩ : ByteArray)), sC ((⟨#[]⟩ : ByteArray)), iC 0, bC false]])]) (by as_aux_lemma => kernel_rfl) ?_
      rcases Bool.eq_false_or_eq_true (decide (p.kind < 1)) with h1 | h1
      · rw [h1]
        have g1 := h1
        try simp only [decide_eq_true_eq, decide_eq_false_iff_not] at g1
        refine ao_some [4, 5, 6, 7, 8, 9, 10, 11, 12, 13, 14, 15, 16, 17, 18, 19] [] [1, 3, 28] tyOK (st1 := mk 123 [(1, .one (.pl [(1, 0)] 0 0)), (3, .one (.pl [(3, 0)] 0 0)), (28, bV true)] [(1, [.bx [iC p.kind, iC p.a, iC p.b, .fz (.sl 1 ((p.keep).map eInt)), iC p.call.kind, iC p.call.ask.kind, sC p.call.ask.key, sC p.call.ask.val, sC p.call.ask.range.lo, sC p.call.ask.range.hi, iC p.call.ask.most, bC p.call.ask.back]]), (3, [.bx [iC 0, sC ((⟨#[]⟩ : ByteArray)), sC ((⟨#[]⟩ : ByteArray)), sC ((⟨#[]⟩ : ByteArray)), sC ((⟨#[]⟩ : ByteArray)), iC 0, bC false]])]) (by as_aux_lemma => kernel_rfl) ?_
        exact ao_nil (by show _ = _; kernel_rfl)
      · rw [h1]
        have g1 := h1
        try simp only [decide_eq_true_eq, decide_eq_false_iff_not] at g1
        refine ao_some [4, 5, 6, 7, 8] [9, 10, 11, 12, 13, 14, 15, 16, 17, 18, 19] [1, 3, 17] tyOK (st1 := mk 123 [(1, .one (.pl [(1, 0)] 0 0)), (3, .one (.pl [(3, 0)] 0 0)), (17, bV (decide (p.kind > 9)))] [(1, [.bx [iC p.kind, iC p.a, iC p.b, .fz (.sl 1 ((p.keep).map eInt)), iC p.call.kind, iC p.call.ask.kind, sC p.call.ask.key, sC p.call.ask.val, sC p.call.ask.range.lo, sC p.call.ask.range.hi, iC p.call.ask.most, bC p.call.ask.back]]), (3, [.bx [iC 0, sC ((⟨#[]⟩ : ByteArray)), sC ((⟨#[]⟩ : ByteArray)), sC ((⟨#[]⟩ : ByteArray)), sC ((⟨#[]⟩ : ByteArray)), iC 0, bC false]])]) (by as_aux_lemma => kernel_rfl) ?_
        rcases Bool.eq_false_or_eq_true (decide (p.kind > 9)) with h2 | h2
        · rw [h2]
          have g2 := h2
          try simp only [decide_eq_true_eq, decide_eq_false_iff_not] at g2
          refine ao_some [9, 10, 11, 12, 13, 14, 15, 16, 17, 18, 19] [] [1, 3, 28] tyOK (st1 := mk 123 [(1, .one (.pl [(1, 0)] 0 0)), (3, .one (.pl [(3, 0)] 0 0)), (28, bV true)] [(1, [.bx [iC p.kind, iC p.a, iC p.b, .fz (.sl 1 ((p.keep).map eInt)), iC p.call.kind, iC p.call.ask.kind, sC p.call.ask.key, sC p.call.ask.val, sC p.call.ask.range.lo, sC p.call.ask.range.hi, iC p.call.ask.most, bC p.call.ask.back]]), (3, [.bx [iC 0, sC ((⟨#[]⟩ : ByteArray)), sC ((⟨#[]⟩ : ByteArray)), sC ((⟨#[]⟩ : ByteArray)), sC ((⟨#[]⟩ : ByteArray)), iC 0, bC false]])]) (by as_aux_lemma => kernel_rfl) ?_
          exact ao_nil (by show _ = _; kernel_rfl)
        · rw [h2]
          have g2 := h2
          try simp only [decide_eq_true_eq, decide_eq_false_iff_not] at g2
          refine ao_some [9, 10] [11, 12, 13, 14, 15, 16, 17, 18, 19] [1, 3, 17, 19] tyOK (st1 := mk 123 [(1, .one (.pl [(1, 0)] 0 0)), (3, .one (.pl [(3, 0)] 0 0)), (17, bV false), (19, iV p.a)] [(1, [.bx [iC p.kind, iC p.a, iC p.b, .fz (.sl 1 ((p.keep).map eInt)), iC p.call.kind, iC p.call.ask.kind, sC p.call.ask.key, sC p.call.ask.val, sC p.call.ask.range.lo, sC p.call.ask.range.hi, iC p.call.ask.most, bC p.call.ask.back]]), (3, [.bx [iC 0, sC ((⟨#[]⟩ : ByteArray)), sC ((⟨#[]⟩ : ByteArray)), sC ((⟨#[]⟩ : ByteArray)), sC ((⟨#[]⟩ : ByteArray)), iC 0, bC false]])]) (by as_aux_lemma => kernel_rfl) ?_
          refine ao_enter (f := 11) (d := 20) (A := [iV p.a]) (st1 := mk 123 [(1, .one (.pl [(1, 0)] 0 0)), (3, .one (.pl [(3, 0)] 0 0)), (17, bV false), (20, bV (l01Num p.a))] [(1, [.bx [iC p.kind, iC p.a, iC p.b, .fz (.sl 1 ((p.keep).map eInt)), iC p.call.kind, iC p.call.ask.kind, sC p.call.ask.key, sC p.call.ask.val, sC p.call.ask.range.lo, sC p.call.ask.range.hi, iC p.call.ask.most, bC p.call.ask.back]]), (3, [.bx [iC 0, sC ((⟨#[]⟩ : ByteArray)), sC ((⟨#[]⟩ : ByteArray)), sC ((⟨#[]⟩ : ByteArray)), sC ((⟨#[]⟩ : ByteArray)), iC 0, bC false]])]) [1, 3, 17, 20] (okl01Num p.a) Try.call11 (by as_aux_lemma => kernel_rfl) (by as_aux_lemma => kernel_rfl) (by as_aux_lemma => kernel_rfl) ?_
          refine ao_some [12, 13, 14] [15, 16, 17, 18, 19] [1, 3, 23] tyOK (st1 := mk 123 [(1, .one (.pl [(1, 0)] 0 0)), (3, .one (.pl [(3, 0)] 0 0)), (23, bV (!(l01Num p.a)))] [(1, [.bx [iC p.kind, iC p.a, iC p.b, .fz (.sl 1 ((p.keep).map eInt)), iC p.call.kind, iC p.call.ask.kind, sC p.call.ask.key, sC p.call.ask.val, sC p.call.ask.range.lo, sC p.call.ask.range.hi, iC p.call.ask.most, bC p.call.ask.back]]), (3, [.bx [iC 0, sC ((⟨#[]⟩ : ByteArray)), sC ((⟨#[]⟩ : ByteArray)), sC ((⟨#[]⟩ : ByteArray)), sC ((⟨#[]⟩ : ByteArray)), iC 0, bC false]])]) (by as_aux_lemma => kernel_rfl) ?_
          rcases Bool.eq_false_or_eq_true (!(l01Num p.a)) with h3 | h3
          · rw [h3]
            have g3 := h3
            try simp only [Bool.not_eq_true, Bool.not_eq_false, Bool.not_eq_true'] at g3
            refine ao_some [15, 16, 17, 18, 19] [] [1, 3, 28] tyOK (st1 := mk 123 [(1, .one (.pl [(1, 0)] 0 0)), (3, .one (.pl [(3, 0)] 0 0)), (28, bV true)] [(1, [.bx [iC p.kind, iC p.a, iC p.b, .fz (.sl 1 ((p.keep).map eInt)), iC p.call.kind, iC p.call.ask.kind, sC p.call.ask.key, sC p.call.ask.val, sC p.call.ask.range.lo, sC p.call.ask.range.hi, iC p.call.ask.most, bC p.call.ask.back]]), (3, [.bx [iC 0, sC ((⟨#[]⟩ : ByteArray)), sC ((⟨#[]⟩ : ByteArray)), sC ((⟨#[]⟩ : ByteArray)), sC ((⟨#[]⟩ : ByteArray)), iC 0, bC false]])]) (by as_aux_lemma => kernel_rfl) ?_
            exact ao_nil (by show _ = _; kernel_rfl)
          · rw [h3]
            have g3 := h3
            try simp only [Bool.not_eq_true, Bool.not_eq_false, Bool.not_eq_true'] at g3
            refine ao_some [15, 16] [17, 18, 19] [1, 3, 23, 25] tyOK (st1 := mk 123 [(1, .one (.pl [(1, 0)] 0 0)), (3, .one (.pl [(3, 0)] 0 0)), (23, bV false), (25, iV p.b)] [(1, [.bx [iC p.kind, iC p.a, iC p.b, .fz (.sl 1 ((p.keep).map eInt)), iC p.call.kind, iC p.call.ask.kind, sC p.call.ask.key, sC p.call.ask.val, sC p.call.ask.range.lo, sC p.call.ask.range.hi, iC p.call.ask.most, bC p.call.ask.back]]), (3, [.bx [iC 0, sC ((⟨#[]⟩ : ByteArray)), sC ((⟨#[]⟩ : ByteArray)), sC ((⟨#[]⟩ : ByteArray)), sC ((⟨#[]⟩ : ByteArray)), iC 0, bC false]])]) (by as_aux_lemma => kernel_rfl) ?_
            refine ao_enter (f := 11) (d := 26) (A := [iV p.b]) (st1 := mk 123 [(1, .one (.pl [(1, 0)] 0 0)), (3, .one (.pl [(3, 0)] 0 0)), (23, bV false), (26, bV (l01Num p.b))] [(1, [.bx [iC p.kind, iC p.a, iC p.b, .fz (.sl 1 ((p.keep).map eInt)), iC p.call.kind, iC p.call.ask.kind, sC p.call.ask.key, sC p.call.ask.val, sC p.call.ask.range.lo, sC p.call.ask.range.hi, iC p.call.ask.most, bC p.call.ask.back]]), (3, [.bx [iC 0, sC ((⟨#[]⟩ : ByteArray)), sC ((⟨#[]⟩ : ByteArray)), sC ((⟨#[]⟩ : ByteArray)), sC ((⟨#[]⟩ : ByteArray)), iC 0, bC false]])]) [1, 3, 23, 26] (okl01Num p.b) Try.call11 (by as_aux_lemma => kernel_rfl) (by as_aux_lemma => kernel_rfl) (by as_aux_lemma => kernel_rfl) ?_
            refine ao_some [18, 19] [] [1, 3, 28] tyOK (st1 := mk 123 [(1, .one (.pl [(1, 0)] 0 0)), (3, .one (.pl [(3, 0)] 0 0)), (28, bV (!(l01Num p.b)))] [(1, [.bx [iC p.kind, iC p.a, iC p.b, .fz (.sl 1 ((p.keep).map eInt)), iC p.call.kind, iC p.call.ask.kind, sC p.call.ask.key, sC p.call.ask.val, sC p.call.ask.range.lo, sC p.call.ask.range.hi, iC p.call.ask.most, bC p.call.ask.back]]), (3, [.bx [iC 0, sC ((⟨#[]⟩ : ByteArray)), sC ((⟨#[]⟩ : ByteArray)), sC ((⟨#[]⟩ : ByteArray)), sC ((⟨#[]⟩ : ByteArray)), iC 0, bC false]])]) (by as_aux_lemma => kernel_rfl) ?_
            exact ao_nil (by show _ = _; kernel_rfl)
    refine a_cond (b := bif (decide (p.kind < 1)) then true else (bif (decide (p.kind > 9)) then true else (bif (!(l01Num p.a)) then true else (!(l01Num p.b))))) (by as_aux_lemma => kernel_rfl) (fun h4 => ?_) (fun h4 => ?_)
    · have g4 := h4
      try simp only [decide_eq_true_eq, decide_eq_false_iff_not, Bool.not_eq_true, Bool.not_eq_false, Bool.not_eq_true'] at g4
      refine a_seq ?_
      refine a_run [2] tyOK (st1 := mk 123 [(2, sV ((⟨#[]⟩ : ByteArray)))] []) (by as_aux_lemma => kernel_rfl) ?_
      refine a_ret ?_
      have e : stepS p = (⟨#[]⟩ : ByteArray) := by
          rw [stepS, show c1S p = true from h4, cond_true]
      exact end_eq (res' := sV ((⟨#[]⟩ : ByteArray))) (by as_aux_lemma => kernel_rfl) (by rw [e] <;> rfl)
    · have g4 := h4
      try simp only [decide_eq_true_eq, decide_eq_false_iff_not, Bool.not_eq_true, Bool.not_eq_false, Bool.not_eq_true'] at g4
      refine a_skip ?_
      refine a_seq ?_
      refine a_seq ?_
      refine a_mid (mk 123 [(1, .one (.pl [(1, 0)] 0 0)), (70, bV (bif ((p.kind != 1)) then (bif ((p.call.kind != 0)) then true else (bif (!((p.call.ask.kind == 0) && ((p.call.ask.key.toList == ((⟨#[]⟩ : ByteArray)).toList) && ((p.call.ask.val.toList == ((⟨#[]⟩ : ByteArray)).toList) && ((p.call.ask.range.lo.toList == ((⟨#[]⟩ : ByteArray)).toList) && ((p.call.ask.range.hi.toList == ((⟨#[]⟩ : ByteArray)).toList) && ((p.call.ask.most == 0) && ((p.call.ask.back == false) && true)))))))) then true else (bif ((p.kind != 7)) then (bif ((p.b != 0)) then true else (bif (decide ((((((p.keep).map eInt).length : Nat) : Int)) > 0)) then true else (bif ((p.kind == 5)) then ((p.a != 0)) else false))) else (bif ((p.kind == 5)) then ((p.a != 0)) else false)))) else (bif ((p.kind != 7)) then (bif ((p.b != 0)) then true else (bif (decide ((((((p.keep).map eInt).length : Nat) : Int)) > 0)) then true else (bif ((p.kind == 5)) then ((p.a != 0)) else false))) else (bif ((p.kind == 5)) then ((p.a != 0)) else false))))] [(1, [.bx [iC p.kind, iC p.a, iC p.b, .fz (.sl 1 ((p.keep).map eInt)), iC p.call.kind, iC p.call.ask.kind, sC p.call.ask.key, sC p.call.ask.val, sC p.call.ask.range.lo, sC p.call.ask.range.hi, iC p.call.ask.most, bC p.call.ask.back]])]) ?_ ?_
      · refine a_ops [0, 1, 2, 3, 4, 5, 6, 7, 8, 9, 10, 11, 12, 13, 14, 15, 16, 17, 18, 19, 20, 21, 22, 23, 24, 25, 26, 27, 28, 29, 30, 31, 32, 33, 34, 35, 36, 37, 38, 39, 40, 41] (by as_aux_lemma => kernel_rfl) ?_
        refine ao_some [0, 1, 2, 3] [4, 5, 6, 7, 8, 9, 10, 11, 12, 13, 14, 15, 16, 17, 18, 19, 20, 21, 22, 23, 24, 25, 26, 27, 28, 29, 30, 31, 32, 33, 34, 35, 36, 37, 38, 39, 40, 41] [1, 3, 32] tyOK (st1 := mk 123 [(1, .one (.pl [(1, 0)] 0 0)), (3, .one (.pl [(3, 0)] 0 0)), (32, bV ((p.kind != 1)))] [(1, [.bx [iC p.kind, iC p.a, iC p.b, .fz (.sl 1 ((p.keep).map eInt)), iC p.call.kind, iC p.call.ask.kind, sC p.call.ask.key, sC p.call.ask.val, sC p.call.ask.range.lo, sC p.call.ask.range.hi, iC p.call.ask.most, bC p.call.ask.back]]), (3, [.bx [iC 0, sC ((⟨#[]⟩ : ByteArray)), sC ((⟨#[]⟩ : ByteArray)), sC ((⟨#[]⟩ : ByteArray)), sC ((⟨#[]⟩ : ByteArray)), iC 0, bC false]])]) (by as_aux_lemma => kernel_rfl) ?_
        rcases Bool.eq_false_or_eq_true ((p.kind != 1)) with h5 | h5
        · rw [h5]
          have g5 := h5
          try simp only [bne_iff_ne, bne_eq_false_iff_eq, ne_eq] at g5
          refine ao_some [4, 5, 6, 7, 8] [9, 10, 11, 12, 13, 14, 15, 16, 17, 18, 19, 20, 21, 22, 23, 24, 25, 26, 27, 28, 29, 30, 31, 32, 33, 34, 35, 36, 37, 38, 39, 40, 41] [1, 3, 32, 37] tyOK (st1 := mk 123 [(1, .one (.pl [(1, 0)] 0 0)), (3, .one (.pl [(3, 0)] 0 0)), (32, bV true), (37, bV ((p.call.kind != 0)))] [(1, [.bx [iC p.kind, iC p.a, iC p.b, .fz (.sl 1 ((p.keep).map eInt)), iC p.call.kind, iC p.call.ask.kind, sC p.call.ask.key, sC p.call.ask.val, sC p.call.ask.range.lo, sC p.call.ask.range.hi, iC p.call.ask.most, bC p.call.ask.back]]), (3, [.bx [iC 0, sC ((⟨#[]⟩ : ByteArray)), sC ((⟨#[]⟩ : ByteArray)), sC ((⟨#[]⟩ : ByteArray)), sC ((⟨#[]⟩ : ByteArray)), iC 0, bC false]])]) (by as_aux_lemma => kernel_rfl) ?_
          rcases Bool.eq_false_or_eq_true ((p.call.kind != 0)) with h6 | h6
          · rw [h6]
            have g6 := h6
            try simp only [bne_iff_ne, bne_eq_false_iff_eq, ne_eq] at g6
            refine ao_some [9, 10, 11, 12, 13, 14, 15, 16, 17, 18, 19, 20, 21, 22, 23, 24, 25, 26, 27, 28, 29, 30, 31, 32, 33, 34, 35, 36, 37, 38, 39, 40, 41] [] [1, 70] tyOK (st1 := mk 123 [(1, .one (.pl [(1, 0)] 0 0)), (70, bV true)] [(1, [.bx [iC p.kind, iC p.a, iC p.b, .fz (.sl 1 ((p.keep).map eInt)), iC p.call.kind, iC p.call.ask.kind, sC p.call.ask.key, sC p.call.ask.val, sC p.call.ask.range.lo, sC p.call.ask.range.hi, iC p.call.ask.most, bC p.call.ask.back]])]) (by as_aux_lemma => kernel_rfl) ?_
            exact ao_nil (by show _ = _; kernel_rfl)
          · rw [h6]
            have g6 := h6
            try simp only [bne_iff_ne, bne_eq_false_iff_eq, ne_eq] at g6
            refine ao_some [9, 10, 11, 12, 13, 14, 15, 16] [17, 18, 19, 20, 21, 22, 23, 24, 25, 26, 27, 28, 29, 30, 31, 32, 33, 34, 35, 36, 37, 38, 39, 40, 41] [1, 45] tyOK (st1 := mk 123 [(1, .one (.pl [(1, 0)] 0 0)), (45, bV (!((p.call.ask.kind == 0) && ((p.call.ask.key.toList == ((⟨#[]⟩ : ByteArray)).toList) && ((p.call.ask.val.toList == ((⟨#[]⟩ : ByteArray)).toList) && ((p.call.ask.range.lo.toList == ((⟨#[]⟩ : ByteArray)).toList) && ((p.call.ask.range.hi.toList == ((⟨#[]⟩ : ByteArray)).toList) && ((p.call.ask.most == 0) && ((p.call.ask.back == false) && true)))))))))] [(1, [.bx [iC p.kind, iC p.a, iC p.b, .fz (.sl 1 ((p.keep).map eInt)), iC p.call.kind, iC p.call.ask.kind, sC p.call.ask.key, sC p.call.ask.val, sC p.call.ask.range.lo, sC p.call.ask.range.hi, iC p.call.ask.most, bC p.call.ask.back]])]) (by as_aux_lemma => kernel_rfl) ?_
            rcases Bool.eq_false_or_eq_true (!((p.call.ask.kind == 0) && ((p.call.ask.key.toList == ((⟨#[]⟩ : ByteArray)).toList) && ((p.call.ask.val.toList == ((⟨#[]⟩ : ByteArray)).toList) && ((p.call.ask.range.lo.toList == ((⟨#[]⟩ : ByteArray)).toList) && ((p.call.ask.range.hi.toList == ((⟨#[]⟩ : ByteArray)).toList) && ((p.call.ask.most == 0) && ((p.call.ask.back == false) && true)))))))) with h7 | h7
            · rw [h7]
              have g7 := h7
              try simp only [beq_iff_eq, beq_eq_false_iff_ne, Bool.not_eq_true, Bool.not_eq_false, Bool.not_eq_true'] at g7
              refine ao_some [17, 18, 19, 20, 21, 22, 23, 24, 25, 26, 27, 28, 29, 30, 31, 32, 33, 34, 35, 36, 37, 38, 39, 40, 41] [] [1, 70] tyOK (st1 := mk 123 [(1, .one (.pl [(1, 0)] 0 0)), (70, bV true)] [(1, [.bx [iC p.kind, iC p.a, iC p.b, .fz (.sl 1 ((p.keep).map eInt)), iC p.call.kind, iC p.call.ask.kind, sC p.call.ask.key, sC p.call.ask.val, sC p.call.ask.range.lo, sC p.call.ask.range.hi, iC p.call.ask.most, bC p.call.ask.back]])]) (by as_aux_lemma => kernel_rfl) ?_
              exact ao_nil (by show _ = _; kernel_rfl)
            · rw [h7]
              have g7 := h7
              try simp only [beq_iff_eq, beq_eq_false_iff_ne, Bool.not_eq_true, Bool.not_eq_false, Bool.not_eq_true'] at g7
              refine ao_some [17, 18, 19, 20] [21, 22, 23, 24, 25, 26, 27, 28, 29, 30, 31, 32, 33, 34, 35, 36, 37, 38, 39, 40, 41] [1, 45, 49] tyOK (st1 := mk 123 [(1, .one (.pl [(1, 0)] 0 0)), (45, bV false), (49, bV ((p.kind != 7)))] [(1, [.bx [iC p.kind, iC p.a, iC p.b, .fz (.sl 1 ((p.keep).map eInt)), iC p.call.kind, iC p.call.ask.kind, sC p.call.ask.key, sC p.call.ask.val, sC p.call.ask.range.lo, sC p.call.ask.range.hi, iC p.call.ask.most, bC p.call.ask.back]])]) (by as_aux_lemma => kernel_rfl) ?_
              rcases Bool.eq_false_or_eq_true ((p.kind != 7)) with h8 | h8
              · rw [h8]
                have g8 := h8
                try simp only [bne_iff_ne, bne_eq_false_iff_eq, ne_eq] at g8
                refine ao_some [21, 22, 23, 24] [25, 26, 27, 28, 29, 30, 31, 32, 33, 34, 35, 36, 37, 38, 39, 40, 41] [1, 45, 49, 53] tyOK (st1 := mk 123 [(1, .one (.pl [(1, 0)] 0 0)), (45, bV false), (49, bV true), (53, bV ((p.b != 0)))] [(1, [.bx [iC p.kind, iC p.a, iC p.b, .fz (.sl 1 ((p.keep).map eInt)), iC p.call.kind, iC p.call.ask.kind, sC p.call.ask.key, sC p.call.ask.val, sC p.call.ask.range.lo, sC p.call.ask.range.hi, iC p.call.ask.most, bC p.call.ask.back]])]) (by as_aux_lemma => kernel_rfl) ?_
                rcases Bool.eq_false_or_eq_true ((p.b != 0)) with h9 | h9
                · rw [h9]
                  have g9 := h9
                  try simp only [bne_iff_ne, bne_eq_false_iff_eq, ne_eq] at g9
                  refine ao_some [25, 26, 27, 28, 29, 30, 31, 32, 33, 34, 35, 36, 37, 38, 39, 40, 41] [] [1, 70] tyOK (st1 := mk 123 [(1, .one (.pl [(1, 0)] 0 0)), (70, bV true)] [(1, [.bx [iC p.kind, iC p.a, iC p.b, .fz (.sl 1 ((p.keep).map eInt)), iC p.call.kind, iC p.call.ask.kind, sC p.call.ask.key, sC p.call.ask.val, sC p.call.ask.range.lo, sC p.call.ask.range.hi, iC p.call.ask.most, bC p.call.ask.back]])]) (by as_aux_lemma => kernel_rfl) ?_
                  exact ao_nil (by show _ = _; kernel_rfl)
                · rw [h9]
                  have g9 := h9
                  try simp only [bne_iff_ne, bne_eq_false_iff_eq, ne_eq] at g9
                  refine ao_some [25, 26, 27, 28, 29, 30, 31, 32] [33, 34, 35, 36, 37, 38, 39, 40, 41] [1, 61] tyOK (st1 := mk 123 [(1, .one (.pl [(1, 0)] 0 0)), (61, bV (decide ((((((p.keep).map eInt).length : Nat) : Int)) > 0)))] [(1, [.bx [iC p.kind, iC p.a, iC p.b, .fz (.sl 1 ((p.keep).map eInt)), iC p.call.kind, iC p.call.ask.kind, sC p.call.ask.key, sC p.call.ask.val, sC p.call.ask.range.lo, sC p.call.ask.range.hi, iC p.call.ask.most, bC p.call.ask.back]])]) (by as_aux_lemma => kernel_rfl) ?_
                  rcases Bool.eq_false_or_eq_true (decide ((((((p.keep).map eInt).length : Nat) : Int)) > 0)) with h10 | h10
                  · rw [h10]
                    have g10 := h10
                    try simp only [decide_eq_true_eq, decide_eq_false_iff_not, List.length_map] at g10
                    refine ao_some [33, 34, 35, 36, 37, 38, 39, 40, 41] [] [1, 70] tyOK (st1 := mk 123 [(1, .one (.pl [(1, 0)] 0 0)), (70, bV true)] [(1, [.bx [iC p.kind, iC p.a, iC p.b, .fz (.sl 1 ((p.keep).map eInt)), iC p.call.kind, iC p.call.ask.kind, sC p.call.ask.key, sC p.call.ask.val, sC p.call.ask.range.lo, sC p.call.ask.range.hi, iC p.call.ask.most, bC p.call.ask.back]])]) (by as_aux_lemma => kernel_rfl) ?_
                    exact ao_nil (by show _ = _; kernel_rfl)
                  · rw [h10]
                    have g10 := h10
                    try simp only [decide_eq_true_eq, decide_eq_false_iff_not, List.length_map] at g10
                    refine ao_some [33, 34, 35, 36] [37, 38, 39, 40, 41] [1, 61, 65] tyOK (st1 := mk 123 [(1, .one (.pl [(1, 0)] 0 0)), (61, bV false), (65, bV ((p.kind == 5)))] [(1, [.bx [iC p.kind, iC p.a, iC p.b, .fz (.sl 1 ((p.keep).map eInt)), iC p.call.kind, iC p.call.ask.kind, sC p.call.ask.key, sC p.call.ask.val, sC p.call.ask.range.lo, sC p.call.ask.range.hi, iC p.call.ask.most, bC p.call.ask.back]])]) (by as_aux_lemma => kernel_rfl) ?_
                    rcases Bool.eq_false_or_eq_true ((p.kind == 5)) with h11 | h11
                    · rw [h11]
                      have g11 := h11
                      try simp only [beq_iff_eq, beq_eq_false_iff_ne] at g11
                      refine ao_some [37, 38, 39, 40, 41] [] [1, 70] tyOK (st1 := mk 123 [(1, .one (.pl [(1, 0)] 0 0)), (70, bV ((p.a != 0)))] [(1, [.bx [iC p.kind, iC p.a, iC p.b, .fz (.sl 1 ((p.keep).map eInt)), iC p.call.kind, iC p.call.ask.kind, sC p.call.ask.key, sC p.call.ask.val, sC p.call.ask.range.lo, sC p.call.ask.range.hi, iC p.call.ask.most, bC p.call.ask.back]])]) (by as_aux_lemma => kernel_rfl) ?_
                      exact ao_nil (by show _ = _; kernel_rfl)
                    · rw [h11]
                      have g11 := h11
                      try simp only [beq_iff_eq, beq_eq_false_iff_ne] at g11
                      refine ao_some [37, 38, 39, 40, 41] [] [1, 70] tyOK (st1 := mk 123 [(1, .one (.pl [(1, 0)] 0 0)), (70, bV false)] [(1, [.bx [iC p.kind, iC p.a, iC p.b, .fz (.sl 1 ((p.keep).map eInt)), iC p.call.kind, iC p.call.ask.kind, sC p.call.ask.key, sC p.call.ask.val, sC p.call.ask.range.lo, sC p.call.ask.range.hi, iC p.call.ask.most, bC p.call.ask.back]])]) (by as_aux_lemma => kernel_rfl) ?_
                      exact ao_nil (by show _ = _; kernel_rfl)
              · rw [h8]
                have g8 := h8
                try simp only [bne_iff_ne, bne_eq_false_iff_eq, ne_eq] at g8
                refine ao_some [21, 22, 23, 24, 25, 26, 27, 28, 29, 30, 31, 32, 33, 34, 35, 36] [37, 38, 39, 40, 41] [1, 61, 65] tyOK (st1 := mk 123 [(1, .one (.pl [(1, 0)] 0 0)), (61, bV false), (65, bV ((p.kind == 5)))] [(1, [.bx [iC p.kind, iC p.a, iC p.b, .fz (.sl 1 ((p.keep).map eInt)), iC p.call.kind, iC p.call.ask.kind, sC p.call.ask.key, sC p.call.ask.val, sC p.call.ask.range.lo, sC p.call.ask.range.hi, iC p.call.ask.most, bC p.call.ask.back]])]) (by as_aux_lemma => kernel_rfl) ?_
                rcases Bool.eq_false_or_eq_true ((p.kind == 5)) with h12 | h12
                · rw [h12]
                  have g12 := h12
                  try simp only [beq_iff_eq, beq_eq_false_iff_ne] at g12
                  refine ao_some [37, 38, 39, 40, 41] [] [1, 70] tyOK (st1 := mk 123 [(1, .one (.pl [(1, 0)] 0 0)), (70, bV ((p.a != 0)))] [(1, [.bx [iC p.kind, iC p.a, iC p.b, .fz (.sl 1 ((p.keep).map eInt)), iC p.call.kind, iC p.call.ask.kind, sC p.call.ask.key, sC p.call.ask.val, sC p.call.ask.range.lo, sC p.call.ask.range.hi, iC p.call.ask.most, bC p.call.ask.back]])]) (by as_aux_lemma => kernel_rfl) ?_
                  exact ao_nil (by show _ = _; kernel_rfl)
                · rw [h12]
                  have g12 := h12
                  try simp only [beq_iff_eq, beq_eq_false_iff_ne] at g12
                  refine ao_some [37, 38, 39, 40, 41] [] [1, 70] tyOK (st1 := mk 123 [(1, .one (.pl [(1, 0)] 0 0)), (70, bV false)] [(1, [.bx [iC p.kind, iC p.a, iC p.b, .fz (.sl 1 ((p.keep).map eInt)), iC p.call.kind, iC p.call.ask.kind, sC p.call.ask.key, sC p.call.ask.val, sC p.call.ask.range.lo, sC p.call.ask.range.hi, iC p.call.ask.most, bC p.call.ask.back]])]) (by as_aux_lemma => kernel_rfl) ?_
                  exact ao_nil (by show _ = _; kernel_rfl)
        · rw [h5]
          have g5 := h5
          try simp only [bne_iff_ne, bne_eq_false_iff_eq, ne_eq] at g5
          refine ao_some [4, 5, 6, 7, 8, 9, 10, 11, 12, 13, 14, 15, 16, 17, 18, 19, 20] [21, 22, 23, 24, 25, 26, 27, 28, 29, 30, 31, 32, 33, 34, 35, 36, 37, 38, 39, 40, 41] [1, 45, 49] tyOK (st1 := mk 123 [(1, .one (.pl [(1, 0)] 0 0)), (45, bV false), (49, bV ((p.kind != 7)))] [(1, [.bx [iC p.kind, iC p.a, iC p.b, .fz (.sl 1 ((p.keep).map eInt)), iC p.call.kind, iC p.call.ask.kind, sC p.call.ask.key, sC p.call.ask.val, sC p.call.ask.range.lo, sC p.call.ask.range.hi, iC p.call.ask.most, bC p.call.ask.back]])]) (by as_aux_lemma => kernel_rfl) ?_
          rcases Bool.eq_false_or_eq_true ((p.kind != 7)) with h13 | h13
          · rw [h13]
            have g13 := h13
            try simp only [bne_iff_ne, bne_eq_false_iff_eq, ne_eq] at g13
            refine ao_some [21, 22, 23, 24] [25, 26, 27, 28, 29, 30, 31, 32, 33, 34, 35, 36, 37, 38, 39, 40, 41] [1, 45, 49, 53] tyOK (st1 := mk 123 [(1, .one (.pl [(1, 0)] 0 0)), (45, bV false), (49, bV true), (53, bV ((p.b != 0)))] [(1, [.bx [iC p.kind, iC p.a, iC p.b, .fz (.sl 1 ((p.keep).map eInt)), iC p.call.kind, iC p.call.ask.kind, sC p.call.ask.key, sC p.call.ask.val, sC p.call.ask.range.lo, sC p.call.ask.range.hi, iC p.call.ask.most, bC p.call.ask.back]])]) (by as_aux_lemma => kernel_rfl) ?_
            rcases Bool.eq_false_or_eq_true ((p.b != 0)) with h14 | h14
            · rw [h14]
              have g14 := h14
              try simp only [bne_iff_ne, bne_eq_false_iff_eq, ne_eq] at g14
              refine ao_some [25, 26, 27, 28, 29, 30, 31, 32, 33, 34, 35, 36, 37, 38, 39, 40, 41] [] [1, 70] tyOK (st1 := mk 123 [(1, .one (.pl [(1, 0)] 0 0)), (70, bV true)] [(1, [.bx [iC p.kind, iC p.a, iC p.b, .fz (.sl 1 ((p.keep).map eInt)), iC p.call.kind, iC p.call.ask.kind, sC p.call.ask.key, sC p.call.ask.val, sC p.call.ask.range.lo, sC p.call.ask.range.hi, iC p.call.ask.most, bC p.call.ask.back]])]) (by as_aux_lemma => kernel_rfl) ?_
              exact ao_nil (by show _ = _; kernel_rfl)
            · rw [h14]
              have g14 := h14
              try simp only [bne_iff_ne, bne_eq_false_iff_eq, ne_eq] at g14
              refine ao_some [25, 26, 27, 28, 29, 30, 31, 32] [33, 34, 35, 36, 37, 38, 39, 40, 41] [1, 61] tyOK (st1 := mk 123 [(1, .one (.pl [(1, 0)] 0 0)), (61, bV (decide ((((((p.keep).map eInt).length : Nat) : Int)) > 0)))] [(1, [.bx [iC p.kind, iC p.a, iC p.b, .fz (.sl 1 ((p.keep).map eInt)), iC p.call.kind, iC p.call.ask.kind, sC p.call.ask.key, sC p.call.ask.val, sC p.call.ask.range.lo, sC p.call.ask.range.hi, iC p.call.ask.most, bC p.call.ask.back]])]) (by as_aux_lemma => kernel_rfl) ?_
              rcases Bool.eq_false_or_eq_true (decide ((((((p.keep).map eInt).length : Nat) : Int)) > 0)) with h15 | h15
              · rw [h15]
                have g15 := h15
                try simp only [decide_eq_true_eq, decide_eq_false_iff_not, List.length_map] at g15
                refine ao_some [33, 34, 35, 36, 37, 38, 39, 40, 41] [] [1, 70] tyOK (st1 := mk 123 [(1, .one (.pl [(1, 0)] 0 0)), (70, bV true)] [(1, [.bx [iC p.kind, iC p.a, iC p.b, .fz (.sl 1 ((p.keep).map eInt)), iC p.call.kind, iC p.call.ask.kind, sC p.call.ask.key, sC p.call.ask.val, sC p.call.ask.range.lo, sC p.call.ask.range.hi, iC p.call.ask.most, bC p.call.ask.back]])]) (by as_aux_lemma => kernel_rfl) ?_
                exact ao_nil (by show _ = _; kernel_rfl)
              · rw [h15]
                have g15 := h15
                try simp only [decide_eq_true_eq, decide_eq_false_iff_not, List.length_map] at g15
                refine ao_some [33, 34, 35, 36] [37, 38, 39, 40, 41] [1, 61, 65] tyOK (st1 := mk 123 [(1, .one (.pl [(1, 0)] 0 0)), (61, bV false), (65, bV ((p.kind == 5)))] [(1, [.bx [iC p.kind, iC p.a, iC p.b, .fz (.sl 1 ((p.keep).map eInt)), iC p.call.kind, iC p.call.ask.kind, sC p.call.ask.key, sC p.call.ask.val, sC p.call.ask.range.lo, sC p.call.ask.range.hi, iC p.call.ask.most, bC p.call.ask.back]])]) (by as_aux_lemma => kernel_rfl) ?_
                rcases Bool.eq_false_or_eq_true ((p.kind == 5)) with h16 | h16
                · rw [h16]
                  have g16 := h16
                  try simp only [beq_iff_eq, beq_eq_false_iff_ne] at g16
                  refine ao_some [37, 38, 39, 40, 41] [] [1, 70] tyOK (st1 := mk 123 [(1, .one (.pl [(1, 0)] 0 0)), (70, bV ((p.a != 0)))] [(1, [.bx [iC p.kind, iC p.a, iC p.b, .fz (.sl 1 ((p.keep).map eInt)), iC p.call.kind, iC p.call.ask.kind, sC p.call.ask.key, sC p.call.ask.val, sC p.call.ask.range.lo, sC p.call.ask.range.hi, iC p.call.ask.most, bC p.call.ask.back]])]) (by as_aux_lemma => kernel_rfl) ?_
                  exact ao_nil (by show _ = _; kernel_rfl)
                · rw [h16]
                  have g16 := h16
                  try simp only [beq_iff_eq, beq_eq_false_iff_ne] at g16
                  refine ao_some [37, 38, 39, 40, 41] [] [1, 70] tyOK (st1 := mk 123 [(1, .one (.pl [(1, 0)] 0 0)), (70, bV false)] [(1, [.bx [iC p.kind, iC p.a, iC p.b, .fz (.sl 1 ((p.keep).map eInt)), iC p.call.kind, iC p.call.ask.kind, sC p.call.ask.key, sC p.call.ask.val, sC p.call.ask.range.lo, sC p.call.ask.range.hi, iC p.call.ask.most, bC p.call.ask.back]])]) (by as_aux_lemma => kernel_rfl) ?_
                  exact ao_nil (by show _ = _; kernel_rfl)
          · rw [h13]
            have g13 := h13
            try simp only [bne_iff_ne, bne_eq_false_iff_eq, ne_eq] at g13
            refine ao_some [21, 22, 23, 24, 25, 26, 27, 28, 29, 30, 31, 32, 33, 34, 35, 36] [37, 38, 39, 40, 41] [1, 61, 65] tyOK (st1 := mk 123 [(1, .one (.pl [(1, 0)] 0 0)), (61, bV false), (65, bV ((p.kind == 5)))] [(1, [.bx [iC p.kind, iC p.a, iC p.b, .fz (.sl 1 ((p.keep).map eInt)), iC p.call.kind, iC p.call.ask.kind, sC p.call.ask.key, sC p.call.ask.val, sC p.call.ask.range.lo, sC p.call.ask.range.hi, iC p.call.ask.most, bC p.call.ask.back]])]) (by as_aux_lemma => kernel_rfl) ?_
            rcases Bool.eq_false_or_eq_true ((p.kind == 5)) with h17 | h17
            · rw [h17]
              have g17 := h17
              try simp only [beq_iff_eq, beq_eq_false_iff_ne] at g17
              refine ao_some [37, 38, 39, 40, 41] [] [1, 70] tyOK (st1 := mk 123 [(1, .one (.pl [(1, 0)] 0 0)), (70, bV ((p.a != 0)))] [(1, [.bx [iC p.kind, iC p.a, iC p.b, .fz (.sl 1 ((p.keep).map eInt)), iC p.call.kind, iC p.call.ask.kind, sC p.call.ask.key, sC p.call.ask.val, sC p.call.ask.range.lo, sC p.call.ask.range.hi, iC p.call.ask.most, bC p.call.ask.back]])]) (by as_aux_lemma => kernel_rfl) ?_
              exact ao_nil (by show _ = _; kernel_rfl)
            · rw [h17]
              have g17 := h17
              try simp only [beq_iff_eq, beq_eq_false_iff_ne] at g17
              refine ao_some [37, 38, 39, 40, 41] [] [1, 70] tyOK (st1 := mk 123 [(1, .one (.pl [(1, 0)] 0 0)), (70, bV false)] [(1, [.bx [iC p.kind, iC p.a, iC p.b, .fz (.sl 1 ((p.keep).map eInt)), iC p.call.kind, iC p.call.ask.kind, sC p.call.ask.key, sC p.call.ask.val, sC p.call.ask.range.lo, sC p.call.ask.range.hi, iC p.call.ask.most, bC p.call.ask.back]])]) (by as_aux_lemma => kernel_rfl) ?_
              exact ao_nil (by show _ = _; kernel_rfl)
      refine a_cond (b := bif ((p.kind != 1)) then (bif ((p.call.kind != 0)) then true else (bif (!((p.call.ask.kind == 0) && ((p.call.ask.key.toList == ((⟨#[]⟩ : ByteArray)).toList) && ((p.call.ask.val.toList == ((⟨#[]⟩ : ByteArray)).toList) && ((p.call.ask.range.lo.toList == ((⟨#[]⟩ : ByteArray)).toList) && ((p.call.ask.range.hi.toList == ((⟨#[]⟩ : ByteArray)).toList) && ((p.call.ask.most == 0) && ((p.call.ask.back == false) && true)))))))) then true else (bif ((p.kind != 7)) then (bif ((p.b != 0)) then true else (bif (decide ((((((p.keep).map eInt).length : Nat) : Int)) > 0)) then true else (bif ((p.kind == 5)) then ((p.a != 0)) else false))) else (bif ((p.kind == 5)) then ((p.a != 0)) else false)))) else (bif ((p.kind != 7)) then (bif ((p.b != 0)) then true else (bif (decide ((((((p.keep).map eInt).length : Nat) : Int)) > 0)) then true else (bif ((p.kind == 5)) then ((p.a != 0)) else false))) else (bif ((p.kind == 5)) then ((p.a != 0)) else false))) (by as_aux_lemma => kernel_rfl) (fun h18 => ?_) (fun h18 => ?_)
      · have g18 := h18
        try simp only [decide_eq_true_eq, decide_eq_false_iff_not, List.length_map, bne_iff_ne, bne_eq_false_iff_eq, ne_eq, beq_iff_eq, beq_eq_false_iff_ne, Bool.not_eq_true, Bool.not_eq_false, Bool.not_eq_true'] at g18
        refine a_seq ?_
        refine a_run [2] tyOK (st1 := mk 123 [(2, sV ((⟨#[]⟩ : ByteArray)))] []) (by as_aux_lemma => kernel_rfl) ?_
        refine a_ret ?_
        have e : stepS p = (⟨#[]⟩ : ByteArray) := by
            rw [stepS, show c1S p = false from h4, cond_false, show c2S p = true from h18, cond_true]
        exact end_eq (res' := sV ((⟨#[]⟩ : ByteArray))) (by as_aux_lemma => kernel_rfl) (by rw [e] <;> rfl)
      · have g18 := h18
        try simp only [decide_eq_true_eq, decide_eq_false_iff_not, List.length_map, bne_iff_ne, bne_eq_false_iff_eq, ne_eq, beq_iff_eq, beq_eq_false_iff_ne, Bool.not_eq_true, Bool.not_eq_false, Bool.not_eq_true'] at g18
        refine a_skip ?_
        refine a_seq ?_
        refine a_mid (mk 123 [(1, .one (.pl [(1, 0)] 0 0)), (4, sV ((el wordsS p.kind)))] [(1, [.bx [iC p.kind, iC p.a, iC p.b, .fz (.sl 1 ((p.keep).map eInt)), iC p.call.kind, iC p.call.ask.kind, sC p.call.ask.key, sC p.call.ask.val, sC p.call.ask.range.lo, sC p.call.ask.range.hi, iC p.call.ask.most, bC p.call.ask.back]])]) ?_ ?_
        · refine a_drawn (n := 6) [] (by as_aux_lemma => kernel_rfl) (by as_aux_lemma => kernel_rfl) ?_
          refine aa_take (fuel := 4) (listed' := #[false, true, true, false, false, false]) (st' := mk 123 [(1, .one (.pl [(1, 0)] 0 0)), (73, iV p.kind)] [(1, [.bx [iC p.kind, iC p.a, iC p.b, .fz (.sl 1 ((p.keep).map eInt)), iC p.call.kind, iC p.call.ask.kind, sC p.call.ask.key, sC p.call.ask.val, sC p.call.ask.range.lo, sC p.call.ask.range.hi, iC p.call.ask.most, bC p.call.ask.back]])]) [1, 2] [1, 73] tyOK (by as_aux_lemma => kernel_rfl) (by as_aux_lemma => kernel_rfl) (by as_aux_lemma => kernel_rfl) ?_
          refine aa_all [0] (by as_aux_lemma => kernel_rfl) rfl ?_
          refine aa_cons ?_ aa_nil
          refine aone_enter (listed' := #[true, true, true, false, false, false]) (f := 12) (d := 71) (A := []) (st1 := mk 123 [(1, .one (.pl [(1, 0)] 0 0)), (71, .one (.c (.sl 1 ((wordsS).map eStr)))), (73, iV p.kind)] [(1, [.bx [iC p.kind, iC p.a, iC p.b, .fz (.sl 1 ((p.keep).map eInt)), iC p.call.kind, iC p.call.ask.kind, sC p.call.ask.key, sC p.call.ask.val, sC p.call.ask.range.lo, sC p.call.ask.range.hi, iC p.call.ask.most, bC p.call.ask.back]])]) [1, 71, 73] (ok12 ) Try.call12 (by as_aux_lemma => kernel_rfl) (by as_aux_lemma => kernel_rfl) (by as_aux_lemma => kernel_rfl) (by as_aux_lemma => kernel_rfl) ?_
          have p1 : 0 ≤ p.kind ∧ p.kind.toNat < (wordsS).length := by have := kindS h4; rw [wordsS_len]; omega
          have q1 := el_get p1.2
          have r1 := q1
          try simp only [Int.toNat_natCast] at r1
          refine aa_index (i := 3) (d := 74) (size := 1) (n := p.kind) (rows := (wordsS).map eStr) (listed' := #[true, true, true, true, false, false]) (st1 := mk 123 [(1, .one (.pl [(1, 0)] 0 0)), (74, .one (.fp [sC ((el wordsS p.kind))] 0))] [(1, [.bx [iC p.kind, iC p.a, iC p.b, .fz (.sl 1 ((p.keep).map eInt)), iC p.call.kind, iC p.call.ask.kind, sC p.call.ask.key, sC p.call.ask.val, sC p.call.ask.range.lo, sC p.call.ask.range.hi, iC p.call.ask.most, bC p.call.ask.back]])]) (eStr (el wordsS p.kind)) [1, 74] tyOK (by as_aux_lemma => kernel_rfl) (by as_aux_lemma => kernel_rfl) p1.1 (by rw [List.getElem?_map, q1]; rfl) (by as_aux_lemma => kernel_rfl) (by as_aux_lemma => kernel_rfl) (by as_aux_lemma => kernel_rfl) (by as_aux_lemma => kernel_rfl) ?_
          refine aa_take (fuel := 0) (listed' := #[true, true, true, true, true, true]) (st' := mk 123 [(1, .one (.pl [(1, 0)] 0 0)), (4, sV ((el wordsS p.kind)))] [(1, [.bx [iC p.kind, iC p.a, iC p.b, .fz (.sl 1 ((p.keep).map eInt)), iC p.call.kind, iC p.call.ask.kind, sC p.call.ask.key, sC p.call.ask.val, sC p.call.ask.range.lo, sC p.call.ask.range.hi, iC p.call.ask.most, bC p.call.ask.back]])]) [4, 5] [1, 4] tyOK (by as_aux_lemma => kernel_rfl) (by as_aux_lemma => kernel_rfl) (by as_aux_lemma => kernel_rfl) ?_
          refine aa_done (by as_aux_lemma => kernel_rfl) ?_
          show _ = _; kernel_rfl
        refine a_seq ?_
        refine a_seq ?_
        refine a_run [1, 4, 78] tyOK (st1 := mk 123 [(1, .one (.pl [(1, 0)] 0 0)), (4, sV ((el wordsS p.kind))), (78, bV ((p.kind != 5)))] [(1, [.bx [iC p.kind, iC p.a, iC p.b, .fz (.sl 1 ((p.keep).map eInt)), iC p.call.kind, iC p.call.ask.kind, sC p.call.ask.key, sC p.call.ask.val, sC p.call.ask.range.lo, sC p.call.ask.range.hi, iC p.call.ask.most, bC p.call.ask.back]])]) (by as_aux_lemma => kernel_rfl) ?_
        refine a_mid (mk 123 [(1, .one (.pl [(1, 0)] 0 0)), (4, sV (bif ((p.kind != 5)) then ((((el wordsS p.kind)) ++ ((⟨#[32]⟩ : ByteArray))) ++ (numText p.a)) else ((el wordsS p.kind))))] [(1, [.bx [iC p.kind, iC p.a, iC p.b, .fz (.sl 1 ((p.keep).map eInt)), iC p.call.kind, iC p.call.ask.kind, sC p.call.ask.key, sC p.call.ask.val, sC p.call.ask.range.lo, sC p.call.ask.range.hi, iC p.call.ask.most, bC p.call.ask.back]])]) ?_ ?_
        · refine a_cond (b := (p.kind != 5)) (by as_aux_lemma => kernel_rfl) (fun h19 => ?_) (fun h19 => ?_)
          · have g19 := h19
            try simp only [bne_iff_ne, bne_eq_false_iff_eq, ne_eq] at g19
            refine a_ops [0, 1, 2, 3, 4, 5, 6] (by as_aux_lemma => kernel_rfl) ?_
            refine ao_some [0] [1, 2, 3, 4, 5, 6] [1, 79] tyOK (st1 := mk 123 [(1, .one (.pl [(1, 0)] 0 0)), (79, sV ((el wordsS p.kind)))] [(1, [.bx [iC p.kind, iC p.a, iC p.b, .fz (.sl 1 ((p.keep).map eInt)), iC p.call.kind, iC p.call.ask.kind, sC p.call.ask.key, sC p.call.ask.val, sC p.call.ask.range.lo, sC p.call.ask.range.hi, iC p.call.ask.most, bC p.call.ask.back]])]) (by as_aux_lemma => kernel_rfl) ?_
            refine ao_q (d := 80) (c := (((el wordsS p.kind)).size + ((⟨#[32]⟩ : ByteArray)).size ≤ 140737488355328)) (tv := sV (((el wordsS p.kind)) ++ ((⟨#[32]⟩ : ByteArray)))) (st1 := mk 123 [(1, .one (.pl [(1, 0)] 0 0)), (80, sV (((el wordsS p.kind)) ++ ((⟨#[32]⟩ : ByteArray))))] [(1, [.bx [iC p.kind, iC p.a, iC p.b, .fz (.sl 1 ((p.keep).map eInt)), iC p.call.kind, iC p.call.ask.kind, sC p.call.ask.key, sC p.call.ask.val, sC p.call.ask.range.lo, sC p.call.ask.range.hi, iC p.call.ask.most, bC p.call.ask.back]])]) [1, 80] tyOK (by as_aux_lemma => kernel_rfl) (by (try have ho : o.size ≤ 20000000 := by omega); refine cat_le ?_ ?_ <;> (repeat (first | with_reducible refine app_le ?_ ?_ | with_reducible refine cond_le ?_ ?_ | with_reducible refine le2 (numText_size _) ?_ | with_reducible refine le2 (quote_size _) ?_ | with_reducible refine le2 ho ?_ | with_reducible refine le2 (wordEl_size _) ?_ | with_reducible refine le2 (callText_size _) ?_ | with_reducible refine lit_le ?_ | exact Eq.refl true))) (by as_aux_lemma => kernel_rfl) ?_
            refine ao_some [2, 3] [4, 5, 6] [1, 80, 82] tyOK (st1 := mk 123 [(1, .one (.pl [(1, 0)] 0 0)), (80, sV (((el wordsS p.kind)) ++ ((⟨#[32]⟩ : ByteArray)))), (82, iV p.a)] [(1, [.bx [iC p.kind, iC p.a, iC p.b, .fz (.sl 1 ((p.keep).map eInt)), iC p.call.kind, iC p.call.ask.kind, sC p.call.ask.key, sC p.call.ask.val, sC p.call.ask.range.lo, sC p.call.ask.range.hi, iC p.call.ask.most, bC p.call.ask.back]])]) (by as_aux_lemma => kernel_rfl) ?_
            refine ao_enter (f := 13) (d := 83) (A := [iV p.a]) (st1 := mk 123 [(1, .one (.pl [(1, 0)] 0 0)), (80, sV (((el wordsS p.kind)) ++ ((⟨#[32]⟩ : ByteArray)))), (83, sV (numText p.a))] [(1, [.bx [iC p.kind, iC p.a, iC p.b, .fz (.sl 1 ((p.keep).map eInt)), iC p.call.kind, iC p.call.ask.kind, sC p.call.ask.key, sC p.call.ask.val, sC p.call.ask.range.lo, sC p.call.ask.range.hi, iC p.call.ask.most, bC p.call.ask.back]])]) [1, 80, 83] (okNumTextS p.a) Try.call13 (by as_aux_lemma => kernel_rfl) (by as_aux_lemma => kernel_rfl) (by as_aux_lemma => kernel_rfl) ?_
            refine ao_q (d := 84) (c := ((((el wordsS p.kind)) ++ ((⟨#[32]⟩ : ByteArray))).size + (numText p.a).size ≤ 140737488355328)) (tv := sV ((((el wordsS p.kind)) ++ ((⟨#[32]⟩ : ByteArray))) ++ (numText p.a))) (st1 := mk 123 [(1, .one (.pl [(1, 0)] 0 0)), (84, sV ((((el wordsS p.kind)) ++ ((⟨#[32]⟩ : ByteArray))) ++ (numText p.a)))] [(1, [.bx [iC p.kind, iC p.a, iC p.b, .fz (.sl 1 ((p.keep).map eInt)), iC p.call.kind, iC p.call.ask.kind, sC p.call.ask.key, sC p.call.ask.val, sC p.call.ask.range.lo, sC p.call.ask.range.hi, iC p.call.ask.most, bC p.call.ask.back]])]) [1, 84] tyOK (by as_aux_lemma => kernel_rfl) (by (try have ho : o.size ≤ 20000000 := by omega); refine cat_le ?_ ?_ <;> (repeat (first | with_reducible refine app_le ?_ ?_ | with_reducible refine cond_le ?_ ?_ | with_reducible refine le2 (numText_size _) ?_ | with_reducible refine le2 (quote_size _) ?_ | with_reducible refine le2 ho ?_ | with_reducible refine le2 (wordEl_size _) ?_ | with_reducible refine le2 (callText_size _) ?_ | with_reducible refine lit_le ?_ | exact Eq.refl true))) (by as_aux_lemma => kernel_rfl) ?_
            refine ao_some [6] [] [1, 4] tyOK (st1 := mk 123 [(1, .one (.pl [(1, 0)] 0 0)), (4, sV ((((el wordsS p.kind)) ++ ((⟨#[32]⟩ : ByteArray))) ++ (numText p.a)))] [(1, [.bx [iC p.kind, iC p.a, iC p.b, .fz (.sl 1 ((p.keep).map eInt)), iC p.call.kind, iC p.call.ask.kind, sC p.call.ask.key, sC p.call.ask.val, sC p.call.ask.range.lo, sC p.call.ask.range.hi, iC p.call.ask.most, bC p.call.ask.back]])]) (by as_aux_lemma => kernel_rfl) ?_
            refine ao_nil ?_
            show mk 123 [(1, .one (.pl [(1, 0)] 0 0)), (4, sV ((((el wordsS p.kind)) ++ ((⟨#[32]⟩ : ByteArray))) ++ (numText p.a)))] [(1, [.bx [iC p.kind, iC p.a, iC p.b, .fz (.sl 1 ((p.keep).map eInt)), iC p.call.kind, iC p.call.ask.kind, sC p.call.ask.key, sC p.call.ask.val, sC p.call.ask.range.lo, sC p.call.ask.range.hi, iC p.call.ask.most, bC p.call.ask.back]])] = mk 123 [(1, .one (.pl [(1, 0)] 0 0)), (4, sV (bif ((p.kind != 5)) then ((((el wordsS p.kind)) ++ ((⟨#[32]⟩ : ByteArray))) ++ (numText p.a)) else ((el wordsS p.kind))))] [(1, [.bx [iC p.kind, iC p.a, iC p.b, .fz (.sl 1 ((p.keep).map eInt)), iC p.call.kind, iC p.call.ask.kind, sC p.call.ask.key, sC p.call.ask.val, sC p.call.ask.range.lo, sC p.call.ask.range.hi, iC p.call.ask.most, bC p.call.ask.back]])]
            first | rfl | (rw [h19, cond_true]) | (simp only [h19, cond_true, cond_false])
          · have g19 := h19
            try simp only [bne_iff_ne, bne_eq_false_iff_eq, ne_eq] at g19
            refine a_keepTo [1, 4] (st1 := mk 123 [(1, .one (.pl [(1, 0)] 0 0)), (4, sV ((el wordsS p.kind)))] [(1, [.bx [iC p.kind, iC p.a, iC p.b, .fz (.sl 1 ((p.keep).map eInt)), iC p.call.kind, iC p.call.ask.kind, sC p.call.ask.key, sC p.call.ask.val, sC p.call.ask.range.lo, sC p.call.ask.range.hi, iC p.call.ask.most, bC p.call.ask.back]])]) (by as_aux_lemma => kernel_rfl) ?_
            refine a_skip ?_
            show mk 123 [(1, .one (.pl [(1, 0)] 0 0)), (4, sV ((el wordsS p.kind)))] [(1, [.bx [iC p.kind, iC p.a, iC p.b, .fz (.sl 1 ((p.keep).map eInt)), iC p.call.kind, iC p.call.ask.kind, sC p.call.ask.key, sC p.call.ask.val, sC p.call.ask.range.lo, sC p.call.ask.range.hi, iC p.call.ask.most, bC p.call.ask.back]])] = mk 123 [(1, .one (.pl [(1, 0)] 0 0)), (4, sV (bif ((p.kind != 5)) then ((((el wordsS p.kind)) ++ ((⟨#[32]⟩ : ByteArray))) ++ (numText p.a)) else ((el wordsS p.kind))))] [(1, [.bx [iC p.kind, iC p.a, iC p.b, .fz (.sl 1 ((p.keep).map eInt)), iC p.call.kind, iC p.call.ask.kind, sC p.call.ask.key, sC p.call.ask.val, sC p.call.ask.range.lo, sC p.call.ask.range.hi, iC p.call.ask.most, bC p.call.ask.back]])]
            first | rfl | (rw [h19, cond_false]) | (simp only [h19, cond_true, cond_false])
        refine a_seq ?_
        refine a_seq ?_
        refine a_run [1, 4, 87] tyOK (st1 := mk 123 [(1, .one (.pl [(1, 0)] 0 0)), (4, sV (bif ((p.kind != 5)) then ((((el wordsS p.kind)) ++ ((⟨#[32]⟩ : ByteArray))) ++ (numText p.a)) else ((el wordsS p.kind)))), (87, bV ((p.kind == 7)))] [(1, [.bx [iC p.kind, iC p.a, iC p.b, .fz (.sl 1 ((p.keep).map eInt)), iC p.call.kind, iC p.call.ask.kind, sC p.call.ask.key, sC p.call.ask.val, sC p.call.ask.range.lo, sC p.call.ask.range.hi, iC p.call.ask.most, bC p.call.ask.back]])]) (by as_aux_lemma => kernel_rfl) ?_
        refine a_mid (mk 123 [(1, .one (.pl [(1, 0)] 0 0)), (4, sV (bif ((p.kind == 7)) then (((bif ((p.kind != 5)) then ((((el wordsS p.kind)) ++ ((⟨#[32]⟩ : ByteArray))) ++ (numText p.a)) else ((el wordsS p.kind))) ++ ((⟨#[32]⟩ : ByteArray))) ++ (numText p.b)) else (bif ((p.kind != 5)) then ((((el wordsS p.kind)) ++ ((⟨#[32]⟩ : ByteArray))) ++ (numText p.a)) else ((el wordsS p.kind)))))] [(1, [.bx [iC p.kind, iC p.a, iC p.b, .fz (.sl 1 ((p.keep).map eInt)), iC p.call.kind, iC p.call.ask.kind, sC p.call.ask.key, sC p.call.ask.val, sC p.call.ask.range.lo, sC p.call.ask.range.hi, iC p.call.ask.most, bC p.call.ask.back]])]) ?_ ?_
        · refine a_cond (b := (p.kind == 7)) (by as_aux_lemma => kernel_rfl) (fun h20 => ?_) (fun h20 => ?_)
          · have g20 := h20
            try simp only [beq_iff_eq, beq_eq_false_iff_ne] at g20
            refine a_ops [0, 1, 2, 3, 4, 5, 6] (by as_aux_lemma => kernel_rfl) ?_
            refine ao_some [0] [1, 2, 3, 4, 5, 6] [1, 88] tyOK (st1 := mk 123 [(1, .one (.pl [(1, 0)] 0 0)), (88, sV (bif ((p.kind != 5)) then ((((el wordsS p.kind)) ++ ((⟨#[32]⟩ : ByteArray))) ++ (numText p.a)) else ((el wordsS p.kind))))] [(1, [.bx [iC p.kind, iC p.a, iC p.b, .fz (.sl 1 ((p.keep).map eInt)), iC p.call.kind, iC p.call.ask.kind, sC p.call.ask.key, sC p.call.ask.val, sC p.call.ask.range.lo, sC p.call.ask.range.hi, iC p.call.ask.most, bC p.call.ask.back]])]) (by as_aux_lemma => kernel_rfl) ?_
            refine ao_q (d := 89) (c := ((bif ((p.kind != 5)) then ((((el wordsS p.kind)) ++ ((⟨#[32]⟩ : ByteArray))) ++ (numText p.a)) else ((el wordsS p.kind))).size + ((⟨#[32]⟩ : ByteArray)).size ≤ 140737488355328)) (tv := sV ((bif ((p.kind != 5)) then ((((el wordsS p.kind)) ++ ((⟨#[32]⟩ : ByteArray))) ++ (numText p.a)) else ((el wordsS p.kind))) ++ ((⟨#[32]⟩ : ByteArray)))) (st1 := mk 123 [(1, .one (.pl [(1, 0)] 0 0)), (89, sV ((bif ((p.kind != 5)) then ((((el wordsS p.kind)) ++ ((⟨#[32]⟩ : ByteArray))) ++ (numText p.a)) else ((el wordsS p.kind))) ++ ((⟨#[32]⟩ : ByteArray))))] [(1, [.bx [iC p.kind, iC p.a, iC p.b, .fz (.sl 1 ((p.keep).map eInt)), iC p.call.kind, iC p.call.ask.kind, sC p.call.ask.key, sC p.call.ask.val, sC p.call.ask.range.lo, sC p.call.ask.range.hi, iC p.call.ask.most, bC p.call.ask.back]])]) [1, 89] tyOK (by as_aux_lemma => kernel_rfl) (by (try have ho : o.size ≤ 20000000 := by omega); refine cat_le ?_ ?_ <;> (repeat (first | with_reducible refine app_le ?_ ?_ | with_reducible refine cond_le ?_ ?_ | with_reducible refine le2 (numText_size _) ?_ | with_reducible refine le2 (quote_size _) ?_ | with_reducible refine le2 ho ?_ | with_reducible refine le2 (wordEl_size _) ?_ | with_reducible refine le2 (callText_size _) ?_ | with_reducible refine lit_le ?_ | exact Eq.refl true))) (by as_aux_lemma => kernel_rfl) ?_
            refine ao_some [2, 3] [4, 5, 6] [1, 89, 91] tyOK (st1 := mk 123 [(1, .one (.pl [(1, 0)] 0 0)), (89, sV ((bif ((p.kind != 5)) then ((((el wordsS p.kind)) ++ ((⟨#[32]⟩ : ByteArray))) ++ (numText p.a)) else ((el wordsS p.kind))) ++ ((⟨#[32]⟩ : ByteArray)))), (91, iV p.b)] [(1, [.bx [iC p.kind, iC p.a, iC p.b, .fz (.sl 1 ((p.keep).map eInt)), iC p.call.kind, iC p.call.ask.kind, sC p.call.ask.key, sC p.call.ask.val, sC p.call.ask.range.lo, sC p.call.ask.range.hi, iC p.call.ask.most, bC p.call.ask.back]])]) (by as_aux_lemma => kernel_rfl) ?_
            refine ao_enter (f := 13) (d := 92) (A := [iV p.b]) (st1 := mk 123 [(1, .one (.pl [(1, 0)] 0 0)), (89, sV ((bif ((p.kind != 5)) then ((((el wordsS p.kind)) ++ ((⟨#[32]⟩ : ByteArray))) ++ (numText p.a)) else ((el wordsS p.kind))) ++ ((⟨#[32]⟩ : ByteArray)))), (92, sV (numText p.b))] [(1, [.bx [iC p.kind, iC p.a, iC p.b, .fz (.sl 1 ((p.keep).map eInt)), iC p.call.kind, iC p.call.ask.kind, sC p.call.ask.key, sC p.call.ask.val, sC p.call.ask.range.lo, sC p.call.ask.range.hi, iC p.call.ask.most, bC p.call.ask.back]])]) [1, 89, 92] (okNumTextS p.b) Try.call13 (by as_aux_lemma => kernel_rfl) (by as_aux_lemma => kernel_rfl) (by as_aux_lemma => kernel_rfl) ?_
            refine ao_q (d := 93) (c := (((bif ((p.kind != 5)) then ((((el wordsS p.kind)) ++ ((⟨#[32]⟩ : ByteArray))) ++ (numText p.a)) else ((el wordsS p.kind))) ++ ((⟨#[32]⟩ : ByteArray))).size + (numText p.b).size ≤ 140737488355328)) (tv := sV (((bif ((p.kind != 5)) then ((((el wordsS p.kind)) ++ ((⟨#[32]⟩ : ByteArray))) ++ (numText p.a)) else ((el wordsS p.kind))) ++ ((⟨#[32]⟩ : ByteArray))) ++ (numText p.b))) (st1 := mk 123 [(1, .one (.pl [(1, 0)] 0 0)), (93, sV (((bif ((p.kind != 5)) then ((((el wordsS p.kind)) ++ ((⟨#[32]⟩ : ByteArray))) ++ (numText p.a)) else ((el wordsS p.kind))) ++ ((⟨#[32]⟩ : ByteArray))) ++ (numText p.b)))] [(1, [.bx [iC p.kind, iC p.a, iC p.b, .fz (.sl 1 ((p.keep).map eInt)), iC p.call.kind, iC p.call.ask.kind, sC p.call.ask.key, sC p.call.ask.val, sC p.call.ask.range.lo, sC p.call.ask.range.hi, iC p.call.ask.most, bC p.call.ask.back]])]) [1, 93] tyOK (by as_aux_lemma => kernel_rfl) (by (try have ho : o.size ≤ 20000000 := by omega); refine cat_le ?_ ?_ <;> (repeat (first | with_reducible refine app_le ?_ ?_ | with_reducible refine cond_le ?_ ?_ | with_reducible refine le2 (numText_size _) ?_ | with_reducible refine le2 (quote_size _) ?_ | with_reducible refine le2 ho ?_ | with_reducible refine le2 (wordEl_size _) ?_ | with_reducible refine le2 (callText_size _) ?_ | with_reducible refine lit_le ?_ | exact Eq.refl true))) (by as_aux_lemma => kernel_rfl) ?_
            refine ao_some [6] [] [1, 4] tyOK (st1 := mk 123 [(1, .one (.pl [(1, 0)] 0 0)), (4, sV (((bif ((p.kind != 5)) then ((((el wordsS p.kind)) ++ ((⟨#[32]⟩ : ByteArray))) ++ (numText p.a)) else ((el wordsS p.kind))) ++ ((⟨#[32]⟩ : ByteArray))) ++ (numText p.b)))] [(1, [.bx [iC p.kind, iC p.a, iC p.b, .fz (.sl 1 ((p.keep).map eInt)), iC p.call.kind, iC p.call.ask.kind, sC p.call.ask.key, sC p.call.ask.val, sC p.call.ask.range.lo, sC p.call.ask.range.hi, iC p.call.ask.most, bC p.call.ask.back]])]) (by as_aux_lemma => kernel_rfl) ?_
            refine ao_nil ?_
            show mk 123 [(1, .one (.pl [(1, 0)] 0 0)), (4, sV (((bif ((p.kind != 5)) then ((((el wordsS p.kind)) ++ ((⟨#[32]⟩ : ByteArray))) ++ (numText p.a)) else ((el wordsS p.kind))) ++ ((⟨#[32]⟩ : ByteArray))) ++ (numText p.b)))] [(1, [.bx [iC p.kind, iC p.a, iC p.b, .fz (.sl 1 ((p.keep).map eInt)), iC p.call.kind, iC p.call.ask.kind, sC p.call.ask.key, sC p.call.ask.val, sC p.call.ask.range.lo, sC p.call.ask.range.hi, iC p.call.ask.most, bC p.call.ask.back]])] = mk 123 [(1, .one (.pl [(1, 0)] 0 0)), (4, sV (bif ((p.kind == 7)) then (((bif ((p.kind != 5)) then ((((el wordsS p.kind)) ++ ((⟨#[32]⟩ : ByteArray))) ++ (numText p.a)) else ((el wordsS p.kind))) ++ ((⟨#[32]⟩ : ByteArray))) ++ (numText p.b)) else (bif ((p.kind != 5)) then ((((el wordsS p.kind)) ++ ((⟨#[32]⟩ : ByteArray))) ++ (numText p.a)) else ((el wordsS p.kind)))))] [(1, [.bx [iC p.kind, iC p.a, iC p.b, .fz (.sl 1 ((p.keep).map eInt)), iC p.call.kind, iC p.call.ask.kind, sC p.call.ask.key, sC p.call.ask.val, sC p.call.ask.range.lo, sC p.call.ask.range.hi, iC p.call.ask.most, bC p.call.ask.back]])]
            first | rfl | (rw [h20, cond_true]) | (simp only [h20, cond_true, cond_false])
          · have g20 := h20
            try simp only [beq_iff_eq, beq_eq_false_iff_ne] at g20
            refine a_keepTo [1, 4] (st1 := mk 123 [(1, .one (.pl [(1, 0)] 0 0)), (4, sV (bif ((p.kind != 5)) then ((((el wordsS p.kind)) ++ ((⟨#[32]⟩ : ByteArray))) ++ (numText p.a)) else ((el wordsS p.kind))))] [(1, [.bx [iC p.kind, iC p.a, iC p.b, .fz (.sl 1 ((p.keep).map eInt)), iC p.call.kind, iC p.call.ask.kind, sC p.call.ask.key, sC p.call.ask.val, sC p.call.ask.range.lo, sC p.call.ask.range.hi, iC p.call.ask.most, bC p.call.ask.back]])]) (by as_aux_lemma => kernel_rfl) ?_
            refine a_skip ?_
            show mk 123 [(1, .one (.pl [(1, 0)] 0 0)), (4, sV (bif ((p.kind != 5)) then ((((el wordsS p.kind)) ++ ((⟨#[32]⟩ : ByteArray))) ++ (numText p.a)) else ((el wordsS p.kind))))] [(1, [.bx [iC p.kind, iC p.a, iC p.b, .fz (.sl 1 ((p.keep).map eInt)), iC p.call.kind, iC p.call.ask.kind, sC p.call.ask.key, sC p.call.ask.val, sC p.call.ask.range.lo, sC p.call.ask.range.hi, iC p.call.ask.most, bC p.call.ask.back]])] = mk 123 [(1, .one (.pl [(1, 0)] 0 0)), (4, sV (bif ((p.kind == 7)) then (((bif ((p.kind != 5)) then ((((el wordsS p.kind)) ++ ((⟨#[32]⟩ : ByteArray))) ++ (numText p.a)) else ((el wordsS p.kind))) ++ ((⟨#[32]⟩ : ByteArray))) ++ (numText p.b)) else (bif ((p.kind != 5)) then ((((el wordsS p.kind)) ++ ((⟨#[32]⟩ : ByteArray))) ++ (numText p.a)) else ((el wordsS p.kind)))))] [(1, [.bx [iC p.kind, iC p.a, iC p.b, .fz (.sl 1 ((p.keep).map eInt)), iC p.call.kind, iC p.call.ask.kind, sC p.call.ask.key, sC p.call.ask.val, sC p.call.ask.range.lo, sC p.call.ask.range.hi, iC p.call.ask.most, bC p.call.ask.back]])]
            first | rfl | (rw [h20, cond_false]) | (simp only [h20, cond_true, cond_false])
        refine a_seq ?_
        refine a_seq ?_
        refine a_run [1, 4, 95, 96, 97] tyOK (st1 := mk 123 [(1, .one (.pl [(1, 0)] 0 0)), (4, sV (bif ((p.kind == 7)) then (((bif ((p.kind != 5)) then ((((el wordsS p.kind)) ++ ((⟨#[32]⟩ : ByteArray))) ++ (numText p.a)) else ((el wordsS p.kind))) ++ ((⟨#[32]⟩ : ByteArray))) ++ (numText p.b)) else (bif ((p.kind != 5)) then ((((el wordsS p.kind)) ++ ((⟨#[32]⟩ : ByteArray))) ++ (numText p.a)) else ((el wordsS p.kind))))), (95, .one (.c (.sl 1 ((p.keep).map eInt)))), (96, iV (((((p.keep).map eInt).length : Nat) : Int))), (97, iV 0)] [(1, [.bx [iC p.kind, iC p.a, iC p.b, .fz (.sl 1 ((p.keep).map eInt)), iC p.call.kind, iC p.call.ask.kind, sC p.call.ask.key, sC p.call.ask.val, sC p.call.ask.range.lo, sC p.call.ask.range.hi, iC p.call.ask.most, bC p.call.ask.back]])]) (by as_aux_lemma => kernel_rfl) ?_
        refine a_block ?_
        refine a_keep [1, 4, 95, 96, 97] ?_
        refine a_loop (ι := L5_1 p) (fun ⟨k, o, _⟩ => mk 123 [(1, .one (.pl [(1, 0)] 0 0)), (4, sV o), (95, .one (.c (.sl 1 ((p.keep).map eInt)))), (96, iV (((((p.keep).map eInt).length : Nat) : Int))), (97, iV (((k : Nat) : Int)))] [(1, [.bx [iC p.kind, iC p.a, iC p.b, .fz (.sl 1 ((p.keep).map eInt)), iC p.call.kind, iC p.call.ask.kind, sC p.call.ask.key, sC p.call.ask.val, sC p.call.ask.range.lo, sC p.call.ask.range.hi, iC p.call.ask.most, bC p.call.ask.back]])]) (fun ⟨k, o, _⟩ => p.keep.length - k) ⟨0, (headW p), Nat.zero_le _, by have := headW_size p; omega, rfl, rfl⟩ (by as_aux_lemma => kernel_rfl) ?_
        rintro ⟨k, o, hI⟩
        obtain ⟨hk, hS, hA, hR⟩ := hI
        show AWp _ _ _ _ (mk 123 [(1, .one (.pl [(1, 0)] 0 0)), (4, sV o), (95, .one (.c (.sl 1 ((p.keep).map eInt)))), (96, iV (((((p.keep).map eInt).length : Nat) : Int))), (97, iV (((k : Nat) : Int)))] [(1, [.bx [iC p.kind, iC p.a, iC p.b, .fz (.sl 1 ((p.keep).map eInt)), iC p.call.kind, iC p.call.ask.kind, sC p.call.ask.key, sC p.call.ask.val, sC p.call.ask.range.lo, sC p.call.ask.range.hi, iC p.call.ask.most, bC p.call.ask.back]])])
        refine a_seq ?_
        refine a_run [1, 4, 95, 96, 97, 98] tyOK (st1 := mk 123 [(1, .one (.pl [(1, 0)] 0 0)), (4, sV o), (95, .one (.c (.sl 1 ((p.keep).map eInt)))), (96, iV (((((p.keep).map eInt).length : Nat) : Int))), (97, iV (((k : Nat) : Int))), (98, bV (decide ((((k : Nat) : Int)) < (((((p.keep).map eInt).length : Nat) : Int)))))] [(1, [.bx [iC p.kind, iC p.a, iC p.b, .fz (.sl 1 ((p.keep).map eInt)), iC p.call.kind, iC p.call.ask.kind, sC p.call.ask.key, sC p.call.ask.val, sC p.call.ask.range.lo, sC p.call.ask.range.hi, iC p.call.ask.most, bC p.call.ask.back]])]) (by as_aux_lemma => kernel_rfl) ?_
        refine a_seq ?_
        refine a_cond (b := decide ((((k : Nat) : Int)) < (((((p.keep).map eInt).length : Nat) : Int)))) (by as_aux_lemma => kernel_rfl) (fun h21 => ?_) (fun h21 => ?_)
        · have g21 := h21
          try simp only [decide_eq_true_eq, decide_eq_false_iff_not, List.length_map] at g21
          refine a_skip ?_
          refine a_seq ?_
          refine a_block ?_
          refine a_seq ?_
          refine a_ops [0, 1, 2] (by as_aux_lemma => kernel_rfl) ?_
          have p2 : 0 ≤ (((k : Nat) : Int)) ∧ (((k : Nat) : Int)).toNat < (p.keep).length := by first | omega | (rw [mv_wrap (by omega) (by omega)]; omega)
          obtain ⟨x2, q2⟩ : ∃ x, (p.keep)[(((k : Nat) : Int)).toNat]? = some x := ⟨_, List.getElem?_eq_getElem p2.2⟩
          have r2 := q2
          try simp only [Int.toNat_natCast] at r2
          refine ao_index (d := 99) (size := 1) (n := ((k : Nat) : Int)) (rows := (p.keep).map eInt) (st1 := mk 123 [(1, .one (.pl [(1, 0)] 0 0)), (4, sV o), (95, .one (.c (.sl 1 ((p.keep).map eInt)))), (96, iV (((((p.keep).map eInt).length : Nat) : Int))), (97, iV (((k : Nat) : Int))), (99, .one (.fp [iC x2] 0))] [(1, [.bx [iC p.kind, iC p.a, iC p.b, .fz (.sl 1 ((p.keep).map eInt)), iC p.call.kind, iC p.call.ask.kind, sC p.call.ask.key, sC p.call.ask.val, sC p.call.ask.range.lo, sC p.call.ask.range.hi, iC p.call.ask.most, bC p.call.ask.back]])]) (eInt x2) [1, 4, 95, 96, 97, 99] tyOK (by as_aux_lemma => kernel_rfl) p2.1 (by rw [List.getElem?_map, q2]; rfl) (by as_aux_lemma => kernel_rfl) (by as_aux_lemma => kernel_rfl) ?_
          refine ao_some [1, 2] [] [1, 4, 6, 95, 96, 97] tyOK (st1 := mk 123 [(1, .one (.pl [(1, 0)] 0 0)), (4, sV o), (6, iV x2), (95, .one (.c (.sl 1 ((p.keep).map eInt)))), (96, iV (((((p.keep).map eInt).length : Nat) : Int))), (97, iV (((k : Nat) : Int)))] [(1, [.bx [iC p.kind, iC p.a, iC p.b, .fz (.sl 1 ((p.keep).map eInt)), iC p.call.kind, iC p.call.ask.kind, sC p.call.ask.key, sC p.call.ask.val, sC p.call.ask.range.lo, sC p.call.ask.range.hi, iC p.call.ask.most, bC p.call.ask.back]])]) (by as_aux_lemma => kernel_rfl) ?_
          refine ao_nil ?_
          refine a_seq ?_
          refine a_seq ?_
          refine a_ops [0, 1, 2] (by as_aux_lemma => kernel_rfl) ?_
          refine ao_some [0] [1, 2] [1, 4, 6, 95, 96, 97, 101] tyOK (st1 := mk 123 [(1, .one (.pl [(1, 0)] 0 0)), (4, sV o), (6, iV x2), (95, .one (.c (.sl 1 ((p.keep).map eInt)))), (96, iV (((((p.keep).map eInt).length : Nat) : Int))), (97, iV (((k : Nat) : Int))), (101, iV x2)] [(1, [.bx [iC p.kind, iC p.a, iC p.b, .fz (.sl 1 ((p.keep).map eInt)), iC p.call.kind, iC p.call.ask.kind, sC p.call.ask.key, sC p.call.ask.val, sC p.call.ask.range.lo, sC p.call.ask.range.hi, iC p.call.ask.most, bC p.call.ask.back]])]) (by as_aux_lemma => kernel_rfl) ?_
          refine ao_enter (f := 11) (d := 102) (A := [iV x2]) (st1 := mk 123 [(1, .one (.pl [(1, 0)] 0 0)), (4, sV o), (6, iV x2), (95, .one (.c (.sl 1 ((p.keep).map eInt)))), (96, iV (((((p.keep).map eInt).length : Nat) : Int))), (97, iV (((k : Nat) : Int))), (102, bV (l01Num x2))] [(1, [.bx [iC p.kind, iC p.a, iC p.b, .fz (.sl 1 ((p.keep).map eInt)), iC p.call.kind, iC p.call.ask.kind, sC p.call.ask.key, sC p.call.ask.val, sC p.call.ask.range.lo, sC p.call.ask.range.hi, iC p.call.ask.most, bC p.call.ask.back]])]) [1, 4, 6, 95, 96, 97, 102] (okl01Num x2) Try.call11 (by as_aux_lemma => kernel_rfl) (by as_aux_lemma => kernel_rfl) (by as_aux_lemma => kernel_rfl) ?_
          refine ao_some [2] [] [1, 4, 6, 95, 96, 97, 103] tyOK (st1 := mk 123 [(1, .one (.pl [(1, 0)] 0 0)), (4, sV o), (6, iV x2), (95, .one (.c (.sl 1 ((p.keep).map eInt)))), (96, iV (((((p.keep).map eInt).length : Nat) : Int))), (97, iV (((k : Nat) : Int))), (103, bV (!(l01Num x2)))] [(1, [.bx [iC p.kind, iC p.a, iC p.b, .fz (.sl 1 ((p.keep).map eInt)), iC p.call.kind, iC p.call.ask.kind, sC p.call.ask.key, sC p.call.ask.val, sC p.call.ask.range.lo, sC p.call.ask.range.hi, iC p.call.ask.most, bC p.call.ask.back]])]) (by as_aux_lemma => kernel_rfl) ?_
          refine ao_nil ?_
          refine a_cond (b := !(l01Num x2)) (by as_aux_lemma => kernel_rfl) (fun h22 => ?_) (fun h22 => ?_)
          · have g22 := h22
            try simp only [Bool.not_eq_true, Bool.not_eq_false, Bool.not_eq_true'] at g22
            refine a_seq ?_
            refine a_run [2] tyOK (st1 := mk 123 [(2, sV ((⟨#[]⟩ : ByteArray)))] []) (by as_aux_lemma => kernel_rfl) ?_
            refine a_ret ?_
            have e : stepS p = (⟨#[]⟩ : ByteArray) := by
                have hz : p.keep.all l01Num = false := by rw [← hA, drop_of_get r2, List.all_cons, show l01Num x2 = false by simpa using h22, Bool.false_and]
                rw [stepS, show c1S p = false from h4, cond_false, show c2S p = false from h18, cond_false, hz, Bool.not_false, cond_true]
            exact end_eq (res' := sV ((⟨#[]⟩ : ByteArray))) (by as_aux_lemma => kernel_rfl) (by rw [e] <;> rfl)
          · have g22 := h22
            try simp only [Bool.not_eq_true, Bool.not_eq_false, Bool.not_eq_true'] at g22
            refine a_skip ?_
            refine a_ops [0, 1, 2, 3, 4, 5] (by as_aux_lemma => kernel_rfl) ?_
            refine ao_some [0] [1, 2, 3, 4, 5] [1, 6, 95, 96, 97, 104] tyOK (st1 := mk 123 [(1, .one (.pl [(1, 0)] 0 0)), (6, iV x2), (95, .one (.c (.sl 1 ((p.keep).map eInt)))), (96, iV (((((p.keep).map eInt).length : Nat) : Int))), (97, iV (((k : Nat) : Int))), (104, sV o)] [(1, [.bx [iC p.kind, iC p.a, iC p.b, .fz (.sl 1 ((p.keep).map eInt)), iC p.call.kind, iC p.call.ask.kind, sC p.call.ask.key, sC p.call.ask.val, sC p.call.ask.range.lo, sC p.call.ask.range.hi, iC p.call.ask.most, bC p.call.ask.back]])]) (by as_aux_lemma => kernel_rfl) ?_
            refine ao_q (d := 105) (c := (o.size + ((⟨#[32]⟩ : ByteArray)).size ≤ 140737488355328)) (tv := sV (o ++ ((⟨#[32]⟩ : ByteArray)))) (st1 := mk 123 [(1, .one (.pl [(1, 0)] 0 0)), (6, iV x2), (95, .one (.c (.sl 1 ((p.keep).map eInt)))), (96, iV (((((p.keep).map eInt).length : Nat) : Int))), (97, iV (((k : Nat) : Int))), (105, sV (o ++ ((⟨#[32]⟩ : ByteArray))))] [(1, [.bx [iC p.kind, iC p.a, iC p.b, .fz (.sl 1 ((p.keep).map eInt)), iC p.call.kind, iC p.call.ask.kind, sC p.call.ask.key, sC p.call.ask.val, sC p.call.ask.range.lo, sC p.call.ask.range.hi, iC p.call.ask.most, bC p.call.ask.back]])]) [1, 6, 95, 96, 97, 105] tyOK (by as_aux_lemma => kernel_rfl) (by (try have ho : o.size ≤ 20000000 := by omega); refine cat_le ?_ ?_ <;> (repeat (first | with_reducible refine app_le ?_ ?_ | with_reducible refine cond_le ?_ ?_ | with_reducible refine le2 (numText_size _) ?_ | with_reducible refine le2 (quote_size _) ?_ | with_reducible refine le2 ho ?_ | with_reducible refine le2 (wordEl_size _) ?_ | with_reducible refine le2 (callText_size _) ?_ | with_reducible refine lit_le ?_ | exact Eq.refl true))) (by as_aux_lemma => kernel_rfl) ?_
            refine ao_some [2] [3, 4, 5] [1, 95, 96, 97, 105, 106] tyOK (st1 := mk 123 [(1, .one (.pl [(1, 0)] 0 0)), (95, .one (.c (.sl 1 ((p.keep).map eInt)))), (96, iV (((((p.keep).map eInt).length : Nat) : Int))), (97, iV (((k : Nat) : Int))), (105, sV (o ++ ((⟨#[32]⟩ : ByteArray)))), (106, iV x2)] [(1, [.bx [iC p.kind, iC p.a, iC p.b, .fz (.sl 1 ((p.keep).map eInt)), iC p.call.kind, iC p.call.ask.kind, sC p.call.ask.key, sC p.call.ask.val, sC p.call.ask.range.lo, sC p.call.ask.range.hi, iC p.call.ask.most, bC p.call.ask.back]])]) (by as_aux_lemma => kernel_rfl) ?_
            refine ao_enter (f := 13) (d := 107) (A := [iV x2]) (st1 := mk 123 [(1, .one (.pl [(1, 0)] 0 0)), (95, .one (.c (.sl 1 ((p.keep).map eInt)))), (96, iV (((((p.keep).map eInt).length : Nat) : Int))), (97, iV (((k : Nat) : Int))), (105, sV (o ++ ((⟨#[32]⟩ : ByteArray)))), (107, sV (numText x2))] [(1, [.bx [iC p.kind, iC p.a, iC p.b, .fz (.sl 1 ((p.keep).map eInt)), iC p.call.kind, iC p.call.ask.kind, sC p.call.ask.key, sC p.call.ask.val, sC p.call.ask.range.lo, sC p.call.ask.range.hi, iC p.call.ask.most, bC p.call.ask.back]])]) [1, 95, 96, 97, 105, 107] (okNumTextS x2) Try.call13 (by as_aux_lemma => kernel_rfl) (by as_aux_lemma => kernel_rfl) (by as_aux_lemma => kernel_rfl) ?_
            refine ao_q (d := 108) (c := ((o ++ ((⟨#[32]⟩ : ByteArray))).size + (numText x2).size ≤ 140737488355328)) (tv := sV ((o ++ ((⟨#[32]⟩ : ByteArray))) ++ (numText x2))) (st1 := mk 123 [(1, .one (.pl [(1, 0)] 0 0)), (95, .one (.c (.sl 1 ((p.keep).map eInt)))), (96, iV (((((p.keep).map eInt).length : Nat) : Int))), (97, iV (((k : Nat) : Int))), (108, sV ((o ++ ((⟨#[32]⟩ : ByteArray))) ++ (numText x2)))] [(1, [.bx [iC p.kind, iC p.a, iC p.b, .fz (.sl 1 ((p.keep).map eInt)), iC p.call.kind, iC p.call.ask.kind, sC p.call.ask.key, sC p.call.ask.val, sC p.call.ask.range.lo, sC p.call.ask.range.hi, iC p.call.ask.most, bC p.call.ask.back]])]) [1, 95, 96, 97, 108] tyOK (by as_aux_lemma => kernel_rfl) (by (try have ho : o.size ≤ 20000000 := by omega); refine cat_le ?_ ?_ <;> (repeat (first | with_reducible refine app_le ?_ ?_ | with_reducible refine cond_le ?_ ?_ | with_reducible refine le2 (numText_size _) ?_ | with_reducible refine le2 (quote_size _) ?_ | with_reducible refine le2 ho ?_ | with_reducible refine le2 (wordEl_size _) ?_ | with_reducible refine le2 (callText_size _) ?_ | with_reducible refine lit_le ?_ | exact Eq.refl true))) (by as_aux_lemma => kernel_rfl) ?_
            refine ao_some [5] [] [1, 4, 95, 96, 97] tyOK (st1 := mk 123 [(1, .one (.pl [(1, 0)] 0 0)), (4, sV ((o ++ ((⟨#[32]⟩ : ByteArray))) ++ (numText x2))), (95, .one (.c (.sl 1 ((p.keep).map eInt)))), (96, iV (((((p.keep).map eInt).length : Nat) : Int))), (97, iV (((k : Nat) : Int)))] [(1, [.bx [iC p.kind, iC p.a, iC p.b, .fz (.sl 1 ((p.keep).map eInt)), iC p.call.kind, iC p.call.ask.kind, sC p.call.ask.key, sC p.call.ask.val, sC p.call.ask.range.lo, sC p.call.ask.range.hi, iC p.call.ask.most, bC p.call.ask.back]])]) (by as_aux_lemma => kernel_rfl) ?_
            refine ao_nil ?_
            refine a_run [1, 4, 95, 96, 97] tyOK (st1 := mk 123 [(1, .one (.pl [(1, 0)] 0 0)), (4, sV ((o ++ ((⟨#[32]⟩ : ByteArray))) ++ (numText x2))), (95, .one (.c (.sl 1 ((p.keep).map eInt)))), (96, iV (((((p.keep).map eInt).length : Nat) : Int))), (97, iV (IntKind.wrap .i64 ((((k : Nat) : Int)) + 1)))] [(1, [.bx [iC p.kind, iC p.a, iC p.b, .fz (.sl 1 ((p.keep).map eInt)), iC p.call.kind, iC p.call.ask.kind, sC p.call.ask.key, sC p.call.ask.val, sC p.call.ask.range.lo, sC p.call.ask.range.hi, iC p.call.ask.most, bC p.call.ask.back]])]) (by as_aux_lemma => kernel_rfl) ?_
            refine ⟨⟨(k + 1), ((o ++ ⟨#[32]⟩) ++ numText x2), ?_⟩, ?_, ?_⟩
            · exact ⟨by omega, by (have h1 := numText_size x2; simp only [ByteArray.size_append, mv_size_mk, List.size_toArray, List.length_cons, List.length_nil]; omega), by rw [← hA, drop_of_get r2, List.all_cons, show l01Num x2 = true by simpa using h22, Bool.true_and], by rw [← hR, drop_of_get r2, keepT]⟩
            · exact (show _ = mk 123 [(1, .one (.pl [(1, 0)] 0 0)), (4, sV ((o ++ ((⟨#[32]⟩ : ByteArray))) ++ (numText x2))), (95, .one (.c (.sl 1 ((p.keep).map eInt)))), (96, iV (((((p.keep).map eInt).length : Nat) : Int))), (97, iV (IntKind.wrap .i64 ((((k : Nat) : Int)) + 1)))] [(1, [.bx [iC p.kind, iC p.a, iC p.b, .fz (.sl 1 ((p.keep).map eInt)), iC p.call.kind, iC p.call.ask.kind, sC p.call.ask.key, sC p.call.ask.val, sC p.call.ask.range.lo, sC p.call.ask.range.hi, iC p.call.ask.most, bC p.call.ask.back]])] by kernel_rfl).trans (by rw [mv_wrap (n := (k : Int) + 1) (by omega) (by omega)]; rfl)
            · dsimp only; omega
        · have g21 := h21
          try simp only [decide_eq_true_eq, decide_eq_false_iff_not, List.length_map] at g21
          refine a_exit ?_
          refine a_seq ?_
          refine a_seq ?_
          refine a_run [1, 4, 112] tyOK (st1 := mk 123 [(1, .one (.pl [(1, 0)] 0 0)), (4, sV o), (112, bV ((p.kind == 1)))] [(1, [.bx [iC p.kind, iC p.a, iC p.b, .fz (.sl 1 ((p.keep).map eInt)), iC p.call.kind, iC p.call.ask.kind, sC p.call.ask.key, sC p.call.ask.val, sC p.call.ask.range.lo, sC p.call.ask.range.hi, iC p.call.ask.most, bC p.call.ask.back]])]) (by as_aux_lemma => kernel_rfl) ?_
          refine a_cond (b := (p.kind == 1)) (by as_aux_lemma => kernel_rfl) (fun h23 => ?_) (fun h23 => ?_)
          · have g23 := h23
            try simp only [beq_iff_eq, beq_eq_false_iff_ne] at g23
            refine a_seq ?_
            refine a_ops [0, 1, 2, 3] (by as_aux_lemma => kernel_rfl) ?_
            refine ao_some [0, 1] [2, 3] [4, 114] tyOK (st1 := mk 123 [(4, sV o), (114, .agg [.c (iC p.call.kind), .c (iC p.call.ask.kind), .c (sC p.call.ask.key), .c (sC p.call.ask.val), .c (sC p.call.ask.range.lo), .c (sC p.call.ask.range.hi), .c (iC p.call.ask.most), .c (bC p.call.ask.back)])] []) (by as_aux_lemma => kernel_rfl) ?_
            refine ao_enter (f := 14) (d := 115) (A := [.agg [.c (iC p.call.kind), .c (iC p.call.ask.kind), .c (sC p.call.ask.key), .c (sC p.call.ask.val), .c (sC p.call.ask.range.lo), .c (sC p.call.ask.range.hi), .c (iC p.call.ask.most), .c (bC p.call.ask.back)]]) (st1 := mk 123 [(4, sV o), (115, sV (callText p.call))] []) [4, 115] (ok14 p.call) Try.call14 (by as_aux_lemma => kernel_rfl) (by as_aux_lemma => kernel_rfl) (by as_aux_lemma => kernel_rfl) ?_
            refine ao_some [3] [] [4, 7] tyOK (st1 := mk 123 [(4, sV o), (7, sV (callText p.call))] []) (by as_aux_lemma => kernel_rfl) ?_
            refine ao_nil ?_
            refine a_seq ?_
            refine a_seq ?_
            refine a_run [4, 7, 117] tyOK (st1 := mk 123 [(4, sV o), (7, sV (callText p.call)), (117, bV (((callText p.call).toList == ((⟨#[]⟩ : ByteArray)).toList)))] []) (by as_aux_lemma => kernel_rfl) ?_
            refine a_cond (b := ((callText p.call).toList == ((⟨#[]⟩ : ByteArray)).toList)) (by as_aux_lemma => kernel_rfl) (fun h24 => ?_) (fun h24 => ?_)
            · have g24 := h24
              try simp only [beq_iff_eq, beq_eq_false_iff_ne] at g24
              refine a_seq ?_
              refine a_run [2] tyOK (st1 := mk 123 [(2, sV ((⟨#[]⟩ : ByteArray)))] []) (by as_aux_lemma => kernel_rfl) ?_
              refine a_ret ?_
              have e : stepS p = (⟨#[]⟩ : ByteArray) := by
                  have hz : p.keep.all l01Num = true := by rw [← hA, List.drop_eq_nil_of_le (by omega)]; rfl
                  have hy : keepT p.keep (headW p) = o := by rw [← hR, List.drop_eq_nil_of_le (by omega), keepT]
                  rw [stepS, show c1S p = false from h4, cond_false, show c2S p = false from h18, cond_false, hz, Bool.not_true, cond_false, h23, cond_true, h24, cond_true]
              exact end_eq (res' := sV ((⟨#[]⟩ : ByteArray))) (by as_aux_lemma => kernel_rfl) (by rw [e] <;> rfl)
            · have g24 := h24
              try simp only [beq_iff_eq, beq_eq_false_iff_ne] at g24
              refine a_skip ?_
              refine a_ops [0, 1, 2, 3, 4] (by as_aux_lemma => kernel_rfl) ?_
              refine ao_some [0] [1, 2, 3, 4] [7, 118] tyOK (st1 := mk 123 [(7, sV (callText p.call)), (118, sV o)] []) (by as_aux_lemma => kernel_rfl) ?_
              refine ao_q (d := 119) (c := (o.size + ((⟨#[32]⟩ : ByteArray)).size ≤ 140737488355328)) (tv := sV (o ++ ((⟨#[32]⟩ : ByteArray)))) (st1 := mk 123 [(7, sV (callText p.call)), (119, sV (o ++ ((⟨#[32]⟩ : ByteArray))))] []) [7, 119] tyOK (by as_aux_lemma => kernel_rfl) (by (try have ho : o.size ≤ 20000000 := by omega); refine cat_le ?_ ?_ <;> (repeat (first | with_reducible refine app_le ?_ ?_ | with_reducible refine cond_le ?_ ?_ | with_reducible refine le2 (numText_size _) ?_ | with_reducible refine le2 (quote_size _) ?_ | with_reducible refine le2 ho ?_ | with_reducible refine le2 (wordEl_size _) ?_ | with_reducible refine le2 (callText_size _) ?_ | with_reducible refine lit_le ?_ | exact Eq.refl true))) (by as_aux_lemma => kernel_rfl) ?_
              refine ao_some [2] [3, 4] [119, 120] tyOK (st1 := mk 123 [(119, sV (o ++ ((⟨#[32]⟩ : ByteArray)))), (120, sV (callText p.call))] []) (by as_aux_lemma => kernel_rfl) ?_
              refine ao_q (d := 121) (c := ((o ++ ((⟨#[32]⟩ : ByteArray))).size + (callText p.call).size ≤ 140737488355328)) (tv := sV ((o ++ ((⟨#[32]⟩ : ByteArray))) ++ (callText p.call))) (st1 := mk 123 [(121, sV ((o ++ ((⟨#[32]⟩ : ByteArray))) ++ (callText p.call)))] []) [121] tyOK (by as_aux_lemma => kernel_rfl) (by (try have ho : o.size ≤ 20000000 := by omega); refine cat_le ?_ ?_ <;> (repeat (first | with_reducible refine app_le ?_ ?_ | with_reducible refine cond_le ?_ ?_ | with_reducible refine le2 (numText_size _) ?_ | with_reducible refine le2 (quote_size _) ?_ | with_reducible refine le2 ho ?_ | with_reducible refine le2 (wordEl_size _) ?_ | with_reducible refine le2 (callText_size _) ?_ | with_reducible refine lit_le ?_ | exact Eq.refl true))) (by as_aux_lemma => kernel_rfl) ?_
              refine ao_some [4] [] [4] tyOK (st1 := mk 123 [(4, sV ((o ++ ((⟨#[32]⟩ : ByteArray))) ++ (callText p.call)))] []) (by as_aux_lemma => kernel_rfl) ?_
              refine ao_nil ?_
              refine a_seq ?_
              refine a_run [2] tyOK (st1 := mk 123 [(2, sV ((o ++ ((⟨#[32]⟩ : ByteArray))) ++ (callText p.call)))] []) (by as_aux_lemma => kernel_rfl) ?_
              refine a_ret ?_
              have e : stepS p = (o ++ ((⟨#[32]⟩ : ByteArray))) ++ (callText p.call) := by
                  have hz : p.keep.all l01Num = true := by rw [← hA, List.drop_eq_nil_of_le (by omega)]; rfl
                  have hy : keepT p.keep (headW p) = o := by rw [← hR, List.drop_eq_nil_of_le (by omega), keepT]
                  rw [stepS, show c1S p = false from h4, cond_false, show c2S p = false from h18, cond_false, hz, Bool.not_true, cond_false, h23, cond_true, h24, cond_false, hy]
              exact end_eq (res' := sV ((o ++ ((⟨#[32]⟩ : ByteArray))) ++ (callText p.call))) (by as_aux_lemma => kernel_rfl) (by rw [e] <;> rfl)
          · have g23 := h23
            try simp only [beq_iff_eq, beq_eq_false_iff_ne] at g23
            refine a_skip ?_
            refine a_seq ?_
            refine a_run [2] tyOK (st1 := mk 123 [(2, sV o)] []) (by as_aux_lemma => kernel_rfl) ?_
            refine a_ret ?_
            have e : stepS p = o := by
                have hz : p.keep.all l01Num = true := by rw [← hA, List.drop_eq_nil_of_le (by omega)]; rfl
                have hy : keepT p.keep (headW p) = o := by rw [← hR, List.drop_eq_nil_of_le (by omega), keepT]
                rw [stepS, show c1S p = false from h4, cond_false, show c2S p = false from h18, cond_false, hz, Bool.not_true, cond_false, h23, cond_false, hy]
            exact end_eq (res' := sV o) (by as_aux_lemma => kernel_rfl) (by rw [e] <;> rfl)



end Go.Proofs.Ytabgoibmnjikkaa
