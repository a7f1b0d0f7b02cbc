/- What functions of the given program compute, each proved once, for the law that is proved in YtabgoibmnjikkaaStepText: whatever their arguments, under the conditions that each theorem names. -/
import Derived.Shelf.Strings.OnBuilder
import Derived.Test.YtabgoibmnjikkaaMvIII
import Derived.Test.YtabgoibmnjikkaaProg
import Derived.Test.YtabgoibmnjikkaaStepTextPartA
import Derived.Test.YtabgoibmnjikkaaStepTextPartB
import Derived.Test.YtabgoibmnjikkaaStepTextPartC
set_option linter.unusedVariables false
set_option linter.unusedSimpArgs false
namespace Go.Proofs.Ytabgoibmnjikkaa
open Go.Mv Go.RowKit

open Go.Shelf
def jLays_ren : Go.Shelf.Ren := ⟨fun | 156 => 21 | 165 => 32 | 166 => 33 | 169 => 34 | 240 => 44 | 241 => 45 | 276 => 51 | 277 => 52 | n => n, fun | 31 => 46 | 9 => 9 | 3 => 3 | 4 => 4 | 0 => 0 | 20 => 20 | 72 => 66 | 76 => 70 | 70 => 64 | 37 => 58 | 75 => 69 | 127 => 79 | 164 => 82 | 5 => 5 | 80 => 72 | n => n, fun | n => n⟩
theorem jLays : Go.Proofs.Lays.n156 Try.prog jLays_ren := {
  mixed := by kernel_rfl
  f156 := Try.func21.trans (congrArg some (by kernel_rfl))
  f165 := Try.func32.trans (congrArg some (by kernel_rfl))
  f166 := Try.func33.trans (congrArg some (by kernel_rfl))
  f169 := Try.func34.trans (congrArg some (by kernel_rfl))
  f240 := Try.func44.trans (congrArg some (by kernel_rfl))
  f241 := Try.func45.trans (congrArg some (by kernel_rfl))
  f276 := Try.func51.trans (congrArg some (by kernel_rfl))
  f277 := Try.func52.trans (congrArg some (by kernel_rfl))
  t0 := Try.underlying0
  a0 := Try.isAgg0
  z0 := Try.sizeOf0
  v0 := Try.zeroValue0
  t3 := Try.underlying3
  a3 := Try.isAgg3
  z3 := Try.sizeOf3
  v3 := Try.zeroValue3
  t4 := Try.underlying4
  a4 := Try.isAgg4
  z4 := Try.sizeOf4
  v4 := Try.zeroValue4
  t9 := Try.underlying9
  a9 := Try.isAgg9
  z9 := Try.sizeOf9
  v9 := Try.zeroValue9
  t20 := Try.underlying20
  a20 := Try.isAgg20
  z20 := Try.sizeOf20
  v20 := Try.zeroValue20
  t31 := Try.underlying46
  a31 := Try.isAgg46
  z31 := Try.sizeOf46
  v31 := Try.zeroValue46
  t37 := Try.underlying58
  a37 := Try.isAgg58
  z37 := Try.sizeOf58
  v37 := Try.zeroValue58
  t70 := Try.underlying64
  a70 := Try.isAgg64
  z70 := Try.sizeOf64
  v70 := Try.zeroValue64
  t72 := Try.underlying66
  a72 := Try.isAgg66
  z72 := Try.sizeOf66
  v72 := Try.zeroValue66
  t75 := Try.underlying69
  a75 := Try.isAgg69
  z75 := Try.sizeOf69
  v75 := Try.zeroValue69
  t76 := Try.underlying70
  a76 := Try.isAgg70
  z76 := Try.sizeOf70
  v76 := Try.zeroValue70
  t127 := Try.underlying79
  a127 := Try.isAgg79
  z127 := Try.sizeOf79
  v127 := Try.zeroValue79
  t164 := Try.underlying82
  a164 := Try.isAgg82
  z164 := Try.sizeOf82
  v164 := Try.zeroValue82 }
theorem jExtra : Builder.Extra Try.prog jLays_ren := {
  sizeBuilder := by kernel_rfl
  liesBuilder := by kernel_rfl
  t5 := Try.underlying5
  a5 := Try.isAgg5
  z5 := Try.sizeOf5
  v5 := Try.zeroValue5
  infoByte := by kernel_rfl
  cellsByte := by kernel_rfl
  sizeByte := by kernel_rfl
  neB5 := by decide }
theorem jJoin0 (a : Option Addr) (c : Nat) (sep : ByteArray) (w : World) :
    Calls Try.prog 21 #[.slice a 0 c, .string sep] w fun e w' => e = .returned (.string ⟨#[]⟩) ∧ w' = w := Any.strings_Join_none jLays jExtra a c sep w
theorem jJoin1 (bk o c : Nat) (xs : List ByteArray) (sep : ByteArray) (w : World) (hcells : ∀ (j : Nat) x, xs[j]? = some x → w.cell? ⟨bk, o + j, none⟩ = some (.string x)) (hbk : bk < w.heap.size) (hN : xs.length ≤ 140737488355328) (hcap : xs.length ≤ c) (hlen : (Lib.join (xs.map (·.data.toList)) sep.data.toList).length ≤ 140737488355328) :
    Calls Try.prog 21 #[.slice (some ⟨bk, o, none⟩) xs.length c, .string sep] w fun e w' => e = .returned (.string ⟨(Lib.join (xs.map (·.data.toList)) sep.data.toList).toArray⟩) ∧ Below w.heap.size w w' := Any.strings_Join jLays jExtra bk o c xs sep w hcells hbk hN hcap hlen
theorem okJoin (ws : List ByteArray) (s : ByteArray) (hN : ws.length ≤ 140737488355328) (hL : (joinB ws s).size ≤ 140737488355328) : CallOK Try.prog 21 [.one (.c (.sl 1 (ws.map eStr))), sV s] (sV (joinB ws s)) [] :=
  join_call (fun a c sep w => jJoin0 a c sep w) (fun bk o c xs sep w h1 h2 h3 h4 h5 => jJoin1 bk o c xs sep w h1 h2 h3 h4 h5) ws s hN hL
theorem callWords_len (c : CallR) : (callWords c).length ≤ 4 := by
  unfold callWords askWords
  cases (c.kind == 1) <;> cases (c.kind == 3) <;> cases (c.kind == 4) <;> cases (c.ask.kind == 1) <;> cases (c.ask.kind == 2) <;> cases (c.ask.kind == 3) <;> cases c.ask.back <;> simp
def c1I (p : Step) : Bool := bif (!(((p.kind == 1)) == (!((p.call.kind == 0) && askE p.call.ask)))) then true else (bif ((p.kind == 1)) then (bif (!(callOkI p.call)) then true else false) else (((wordOf p.kind).toList == ((⟨#[]⟩ : ByteArray)).toList)))
def wordsI (p : Step) : List ByteArray := bif (p.kind == 1) then [(⟨#[99, 97, 108, 108]⟩ : ByteArray), numText p.a] ++ callWords p.call else bif (p.kind == 5) then [wordOf p.kind] else bif (p.kind == 7) then [wordOf p.kind, numText p.a, numText p.b] ++ p.keep.map numText else [wordOf p.kind, numText p.a]
def noEmpty (ws : List ByteArray) : Bool := ws.all fun w => !(w.toList == (⟨#[]⟩ : ByteArray).toList)
def stepI (p : Step) : ByteArray := bif c1I p then ⟨#[]⟩ else bif c2I p then ⟨#[]⟩ else bif noEmpty (wordsI p) then joinB (wordsI p) ⟨#[32]⟩ else ⟨#[]⟩
theorem wordsI_len {p : Step} (hp : p.keep.length ≤ 1048576) : (wordsI p).length ≤ 2000000 := by
  have h := callWords_len p.call
  unfold wordsI
  cases (p.kind == 1) <;> cases (p.kind == 5) <;> cases (p.kind == 7) <;> simp <;> omega
theorem word_size (k : Int) : (wordOf k).size ≤ 12290 := by
  have h : (wordOf k).size ≤ 2 ^ 3 := by
    unfold wordOf
    repeat (first | with_reducible refine app_le ?_ ?_ | with_reducible refine cond_le ?_ ?_ | with_reducible refine le2 (numText_size _) ?_ | with_reducible refine le2 (quote_size _) ?_ | with_reducible refine lit_le ?_ | exact Eq.refl true)
  omega
theorem askWords_mem (q : Ask) : ∀ w ∈ askWords q, w.size ≤ 12290 := by
  have hq := fun s => quote_size s
  have hn := fun n => Nat.le_trans (numText_size n) (show 13 ≤ 12290 by decide)
  have hl : ∀ a : Array UInt8, a.size ≤ 8 → (⟨a⟩ : ByteArray).size ≤ 12290 := fun a h => Nat.le_trans h (by decide)
  unfold askWords
  intro w hw
  cases h1 : (q.kind == 1) <;> rw [h1] at hw <;> simp only [cond_true, cond_false] at hw
  · cases h2 : (q.kind == 2) <;> rw [h2] at hw <;> simp only [cond_true, cond_false] at hw
    · cases h3 : (q.kind == 3) <;> rw [h3] at hw <;> simp only [cond_true, cond_false] at hw
      · cases h4 : q.back <;> rw [h4] at hw <;> simp only [cond_true, cond_false, List.mem_cons, List.not_mem_nil, or_false] at hw
        · rcases hw with rfl | rfl | rfl | rfl
          · exact hl _ (by decide)
          · exact hq _
          · exact hq _
          · exact hn _
        · rcases hw with rfl | rfl | rfl | rfl
          · exact hl _ (by decide)
          · exact hq _
          · exact hq _
          · exact hn _
      · simp only [List.mem_cons, List.not_mem_nil, or_false] at hw
        rcases hw with rfl | rfl
        · exact hl _ (by decide)
        · exact hq _
    · simp only [List.mem_cons, List.not_mem_nil, or_false] at hw
      rcases hw with rfl | rfl | rfl
      · exact hl _ (by decide)
      · exact hq _
      · exact hq _
  · simp only [List.mem_cons, List.not_mem_nil, or_false] at hw
    rcases hw with rfl | rfl
    · exact hl _ (by decide)
    · exact hq _
theorem callWords_mem (c : CallR) : ∀ w ∈ callWords c, w.size ≤ 12290 := by
  have hl : ∀ a : Array UInt8, a.size ≤ 8 → (⟨a⟩ : ByteArray).size ≤ 12290 := fun a h => Nat.le_trans h (by decide)
  unfold callWords
  intro w hw
  cases h1 : (c.kind == 1) <;> rw [h1] at hw <;> simp only [cond_true, cond_false] at hw
  · cases h2 : (c.kind == 3) <;> rw [h2] at hw <;> simp only [cond_true, cond_false] at hw
    · cases h3 : (c.kind == 4) <;> rw [h3] at hw <;> simp only [cond_true, cond_false] at hw
      · exact askWords_mem _ w hw
      · simp only [List.mem_cons, List.not_mem_nil, or_false] at hw; subst hw; exact hl _ (by decide)
    · simp only [List.mem_cons, List.not_mem_nil, or_false] at hw; subst hw; exact hl _ (by decide)
  · simp only [List.mem_cons, List.not_mem_nil, or_false] at hw; subst hw; exact hl _ (by decide)
theorem wordsI_mem (p : Step) : ∀ w ∈ wordsI p, w.size ≤ 12290 := by
  have hc := callWords_mem p.call
  have hn := fun n => Nat.le_trans (numText_size n) (show 13 ≤ 12290 by decide)
  have hw := word_size p.kind
  have hl : (⟨#[99, 97, 108, 108]⟩ : ByteArray).size ≤ 12290 := by decide
  unfold wordsI
  intro w hw2
  cases h1 : (p.kind == 1) <;> cases h2 : (p.kind == 5) <;> cases h3 : (p.kind == 7) <;> simp only [h1, h2, h3, cond_true, cond_false, List.mem_append, List.mem_cons, List.not_mem_nil, or_false, List.mem_map] at hw2
  all_goals (first
    | (rcases hw2 with (rfl | rfl) | h; exact hl; exact hn _; exact hc _ h)
    | (rcases hw2 with (rfl | rfl | rfl) | ⟨n, _, rfl⟩; exact hw; exact hn _; exact hn _; exact hn _)
    | (rcases hw2 with rfl | rfl; exact hw; exact hn _)
    | (subst hw2; exact hw))
theorem foldJ_size (sep : ByteArray) (m : Nat) : ∀ (xs : List ByteArray) (o : ByteArray), (∀ w ∈ xs, w.size ≤ m) → (foldJ sep xs o).size ≤ o.size + xs.length * (m + sep.size)
  | [], o, _ => by simp [foldJ]
  | x :: xs, o, h => by
    have h1 := foldJ_size sep m xs ((o ++ sep) ++ x) fun w hw => h w (by simp [hw])
    have h2 := h x (by simp)
    rw [foldJ]
    simp only [ByteArray.size_append, List.length_cons, Nat.succ_mul] at h1 ⊢
    omega
theorem joinI_size {p : Step} (hp : p.keep.length ≤ 1048576) : (joinB (wordsI p) ⟨#[32]⟩).size ≤ 140737488355328 := by
  have h1 := wordsI_len hp
  have h2 := wordsI_mem p
  generalize wordsI p = ws at h1 h2
  cases ws with
  | nil => exact Nat.zero_le _
  | cons x xs =>
    rw [joinB_fold]
    have h3 := foldJ_size ⟨#[32]⟩ 12290 xs x fun w hw => h2 w (by simp [hw])
    have h4 := h2 x (by simp)
    have h5 : (⟨#[32]⟩ : ByteArray).size = 1 := rfl
    rw [h5] at h3
    simp only [List.length_cons] at h1
    have : xs.length * (12290 + 1) ≤ 2000000 * 12291 := Nat.mul_le_mul (by omega) (Nat.le_refl _)
    omega

structure L7_1 (p : Step) where
  k : Nat
  ws : List ByteArray
  inv : k ≤ p.keep.length ∧ ws = [wordOf p.kind, numText p.a, numText p.b] ++ (p.keep.take k).map numText

structure L7_2 (p : Step) where
  k : Nat
  inv : k ≤ (wordsI p).length ∧ noEmpty ((wordsI p).drop k) = noEmpty (wordsI p)

set_option maxHeartbeats 2000000 in
/-- impl.StepText -/
theorem ok7 (p : Step) (hp : p.keep.length ≤ 1048576) : CallOK Try.prog 7 [.agg [.c (iC p.kind), .c (iC p.a), .c (iC p.b), .c (.sl 1 ((p.keep).map eInt)), .c (iC p.call.kind), .c (iC p.call.ask.kind), .c (sC p.call.ask.key), .c (sC p.call.ask.val), .c (sC p.call.ask.range.lo), .c (sC p.call.ask.range.hi), .c (iC p.call.ask.most), .c (bC p.call.ask.back)]] (sV (stepI p)) [] :=
  callOK tyOK Try.func7 rfl fun w S hS => by
    refine a_seq ?_
    refine a_run [1] tyOK (st1 := mk 116 [(1, .one (.pl [(1, 0)] 0 0))] [(1, [.bx [iC p.kind, iC p.a, iC p.b, .fz (.sl 1 ((p.keep).map eInt)), iC p.call.kind, iC p.call.ask.kind, sC p.call.ask.key, sC p.call.ask.val, sC p.call.ask.range.lo, sC p.call.ask.range.hi, iC p.call.ask.most, bC p.call.ask.back]])]) (by as_aux_lemma => kernel_rfl) ?_
    refine a_seq ?_
    refine a_run [1, 3] tyOK (st1 := mk 116 [(1, .one (.pl [(1, 0)] 0 0)), (3, bV ((p.kind == 1)))] [(1, [.bx [iC p.kind, iC p.a, iC p.b, .fz (.sl 1 ((p.keep).map eInt)), iC p.call.kind, iC p.call.ask.kind, sC p.call.ask.key, sC p.call.ask.val, sC p.call.ask.range.lo, sC p.call.ask.range.hi, iC p.call.ask.most, bC p.call.ask.back]])]) (by as_aux_lemma => kernel_rfl) ?_
    refine a_seq ?_
    refine a_ops [0, 1, 2, 3] (by as_aux_lemma => kernel_rfl) ?_
    refine ao_some [0, 1] [2, 3] [1, 3, 14] tyOK (st1 := mk 116 [(1, .one (.pl [(1, 0)] 0 0)), (3, bV ((p.kind == 1))), (14, iV p.kind)] [(1, [.bx [iC p.kind, iC p.a, iC p.b, .fz (.sl 1 ((p.keep).map eInt)), iC p.call.kind, iC p.call.ask.kind, sC p.call.ask.key, sC p.call.ask.val, sC p.call.ask.range.lo, sC p.call.ask.range.hi, iC p.call.ask.most, bC p.call.ask.back]])]) (by as_aux_lemma => kernel_rfl) ?_
    refine ao_enter (f := 17) (d := 15) (A := [iV p.kind]) (st1 := mk 116 [(1, .one (.pl [(1, 0)] 0 0)), (3, bV ((p.kind == 1))), (15, sV (wordOf p.kind))] [(1, [.bx [iC p.kind, iC p.a, iC p.b, .fz (.sl 1 ((p.keep).map eInt)), iC p.call.kind, iC p.call.ask.kind, sC p.call.ask.key, sC p.call.ask.val, sC p.call.ask.range.lo, sC p.call.ask.range.hi, iC p.call.ask.most, bC p.call.ask.back]])]) [1, 3, 15] (ok17 p.kind) Try.call17 (by as_aux_lemma => kernel_rfl) (by as_aux_lemma => kernel_rfl) (by as_aux_lemma => kernel_rfl) ?_
    refine ao_some [3] [] [1, 3, 4] tyOK (st1 := mk 116 [(1, .one (.pl [(1, 0)] 0 0)), (3, bV ((p.kind == 1))), (4, sV (wordOf p.kind))] [(1, [.bx [iC p.kind, iC p.a, iC p.b, .fz (.sl 1 ((p.keep).map eInt)), iC p.call.kind, iC p.call.ask.kind, sC p.call.ask.key, sC p.call.ask.val, sC p.call.ask.range.lo, sC p.call.ask.range.hi, iC p.call.ask.most, bC p.call.ask.back]])]) (by as_aux_lemma => kernel_rfl) ?_
    refine ao_nil ?_
    refine a_seq ?_
    refine a_seq ?_
    refine a_mid (mk 116 [(1, .one (.pl [(1, 0)] 0 0)), (4, sV (wordOf p.kind)), (38, bV (bif (!(((p.kind == 1)) == (!((p.call.kind == 0) && ((p.call.ask.kind == 0) && ((p.call.ask.key.toList == ((⟨#[]⟩ : ByteArray)).toList) && ((p.call.ask.val.toList == ((⟨#[]⟩ : ByteArray)).toList) && ((p.call.ask.range.lo.toList == ((⟨#[]⟩ : ByteArray)).toList) && ((p.call.ask.range.hi.toList == ((⟨#[]⟩ : ByteArray)).toList) && ((p.call.ask.most == 0) && ((p.call.ask.back == false) && true))))))))))) then true else (bif ((p.kind == 1)) then (bif (!(callOkI p.call)) then true else false) else (((wordOf p.kind).toList == ((⟨#[]⟩ : ByteArray)).toList)))))] [(1, [.bx [iC p.kind, iC p.a, iC p.b, .fz (.sl 1 ((p.keep).map eInt)), iC p.call.kind, iC p.call.ask.kind, sC p.call.ask.key, sC p.call.ask.val, sC p.call.ask.range.lo, sC p.call.ask.range.hi, iC p.call.ask.most, bC p.call.ask.back]])]) ?_ ?_
    · refine a_ops [0, 1, 2, 3, 4, 5, 6, 7, 8, 9, 10, 11, 12, 13, 14, 15, 16, 17, 18, 19, 20, 21, 22] (by as_aux_lemma => kernel_rfl) ?_
      refine ao_some [0, 1, 2, 3, 4, 5, 6] [7, 8, 9, 10, 11, 12, 13, 14, 15, 16, 17, 18, 19, 20, 21, 22] [1, 3, 4, 22] tyOK (st1 := mk 116 [(1, .one (.pl [(1, 0)] 0 0)), (3, bV ((p.kind == 1))), (4, sV (wordOf p.kind)), (22, bV (!(((p.kind == 1)) == (!((p.call.kind == 0) && ((p.call.ask.kind == 0) && ((p.call.ask.key.toList == ((⟨#[]⟩ : ByteArray)).toList) && ((p.call.ask.val.toList == ((⟨#[]⟩ : ByteArray)).toList) && ((p.call.ask.range.lo.toList == ((⟨#[]⟩ : ByteArray)).toList) && ((p.call.ask.range.hi.toList == ((⟨#[]⟩ : ByteArray)).toList) && ((p.call.ask.most == 0) && ((p.call.ask.back == false) && true))))))))))))] [(1, [.bx [iC p.kind, iC p.a, iC p.b, .fz (.sl 1 ((p.keep).map eInt)), iC p.call.kind, iC p.call.ask.kind, sC p.call.ask.key, sC p.call.ask.val, sC p.call.ask.range.lo, sC p.call.ask.range.hi, iC p.call.ask.most, bC p.call.ask.back]])]) (by as_aux_lemma => kernel_rfl) ?_
      rcases Bool.eq_false_or_eq_true (!(((p.kind == 1)) == (!((p.call.kind == 0) && ((p.call.ask.kind == 0) && ((p.call.ask.key.toList == ((⟨#[]⟩ : ByteArray)).toList) && ((p.call.ask.val.toList == ((⟨#[]⟩ : ByteArray)).toList) && ((p.call.ask.range.lo.toList == ((⟨#[]⟩ : ByteArray)).toList) && ((p.call.ask.range.hi.toList == ((⟨#[]⟩ : ByteArray)).toList) && ((p.call.ask.most == 0) && ((p.call.ask.back == false) && true))))))))))) with h1 | h1
      · rw [h1]
        have g1 := h1
        try simp only [beq_iff_eq, beq_eq_false_iff_ne, Bool.not_eq_true, Bool.not_eq_false, Bool.not_eq_true'] at g1
        refine ao_some [7, 8, 9, 10, 11, 12, 13, 14, 15, 16, 17, 18, 19, 20, 21, 22] [] [1, 4, 38] tyOK (st1 := mk 116 [(1, .one (.pl [(1, 0)] 0 0)), (4, sV (wordOf p.kind)), (38, bV true)] [(1, [.bx [iC p.kind, iC p.a, iC p.b, .fz (.sl 1 ((p.keep).map eInt)), iC p.call.kind, iC p.call.ask.kind, sC p.call.ask.key, sC p.call.ask.val, sC p.call.ask.range.lo, sC p.call.ask.range.hi, iC p.call.ask.most, bC p.call.ask.back]])]) (by as_aux_lemma => kernel_rfl) ?_
        exact ao_nil (by show _ = _; kernel_rfl)
      · rw [h1]
        have g1 := h1
        try simp only [beq_iff_eq, beq_eq_false_iff_ne, Bool.not_eq_true, Bool.not_eq_false, Bool.not_eq_true'] at g1
        refine ao_some [7, 8] [9, 10, 11, 12, 13, 14, 15, 16, 17, 18, 19, 20, 21, 22] [1, 3, 4, 22, 24] tyOK (st1 := mk 116 [(1, .one (.pl [(1, 0)] 0 0)), (3, bV ((p.kind == 1))), (4, sV (wordOf p.kind)), (22, bV false), (24, bV ((p.kind == 1)))] [(1, [.bx [iC p.kind, iC p.a, iC p.b, .fz (.sl 1 ((p.keep).map eInt)), iC p.call.kind, iC p.call.ask.kind, sC p.call.ask.key, sC p.call.ask.val, sC p.call.ask.range.lo, sC p.call.ask.range.hi, iC p.call.ask.most, bC p.call.ask.back]])]) (by as_aux_lemma => kernel_rfl) ?_
        rcases Bool.eq_false_or_eq_true ((p.kind == 1)) with h2 | h2
        · rw [h2]
          have g2 := h2
          try simp only [beq_iff_eq, beq_eq_false_iff_ne] at g2
          refine ao_some [9, 10] [11, 12, 13, 14, 15, 16, 17, 18, 19, 20, 21, 22] [1, 3, 4, 22, 24, 26] tyOK (st1 := mk 116 [(1, .one (.pl [(1, 0)] 0 0)), (3, bV true), (4, sV (wordOf p.kind)), (22, bV false), (24, bV true), (26, .agg [.c (iC p.call.kind), .c (iC p.call.ask.kind), .c (sC p.call.ask.key), .c (sC p.call.ask.val), .c (sC p.call.ask.range.lo), .c (sC p.call.ask.range.hi), .c (iC p.call.ask.most), .c (bC p.call.ask.back)])] [(1, [.bx [iC p.kind, iC p.a, iC p.b, .fz (.sl 1 ((p.keep).map eInt)), iC p.call.kind, iC p.call.ask.kind, sC p.call.ask.key, sC p.call.ask.val, sC p.call.ask.range.lo, sC p.call.ask.range.hi, iC p.call.ask.most, bC p.call.ask.back]])]) (by as_aux_lemma => kernel_rfl) ?_
          refine ao_enter (f := 18) (d := 27) (A := [.agg [.c (iC p.call.kind), .c (iC p.call.ask.kind), .c (sC p.call.ask.key), .c (sC p.call.ask.val), .c (sC p.call.ask.range.lo), .c (sC p.call.ask.range.hi), .c (iC p.call.ask.most), .c (bC p.call.ask.back)]]) (st1 := mk 116 [(1, .one (.pl [(1, 0)] 0 0)), (3, bV true), (4, sV (wordOf p.kind)), (22, bV false), (24, bV true), (27, bV (callOkI p.call))] [(1, [.bx [iC p.kind, iC p.a, iC p.b, .fz (.sl 1 ((p.keep).map eInt)), iC p.call.kind, iC p.call.ask.kind, sC p.call.ask.key, sC p.call.ask.val, sC p.call.ask.range.lo, sC p.call.ask.range.hi, iC p.call.ask.most, bC p.call.ask.back]])]) [1, 3, 4, 22, 24, 27] (ok18 p.call) Try.call18 (by as_aux_lemma => kernel_rfl) (by as_aux_lemma => kernel_rfl) (by as_aux_lemma => kernel_rfl) ?_
          refine ao_some [12, 13, 14, 15] [16, 17, 18, 19, 20, 21, 22] [1, 3, 4, 31] tyOK (st1 := mk 116 [(1, .one (.pl [(1, 0)] 0 0)), (3, bV true), (4, sV (wordOf p.kind)), (31, bV (!(callOkI p.call)))] [(1, [.bx [iC p.kind, iC p.a, iC p.b, .fz (.sl 1 ((p.keep).map eInt)), iC p.call.kind, iC p.call.ask.kind, sC p.call.ask.key, sC p.call.ask.val, sC p.call.ask.range.lo, sC p.call.ask.range.hi, iC p.call.ask.most, bC p.call.ask.back]])]) (by as_aux_lemma => kernel_rfl) ?_
          rcases Bool.eq_false_or_eq_true (!(callOkI p.call)) with h3 | h3
          · rw [h3]
            have g3 := h3
            try simp only [Bool.not_eq_true, Bool.not_eq_false, Bool.not_eq_true'] at g3
            refine ao_some [16, 17, 18, 19, 20, 21, 22] [] [1, 4, 38] tyOK (st1 := mk 116 [(1, .one (.pl [(1, 0)] 0 0)), (4, sV (wordOf p.kind)), (38, bV true)] [(1, [.bx [iC p.kind, iC p.a, iC p.b, .fz (.sl 1 ((p.keep).map eInt)), iC p.call.kind, iC p.call.ask.kind, sC p.call.ask.key, sC p.call.ask.val, sC p.call.ask.range.lo, sC p.call.ask.range.hi, iC p.call.ask.most, bC p.call.ask.back]])]) (by as_aux_lemma => kernel_rfl) ?_
            exact ao_nil (by show _ = _; kernel_rfl)
          · rw [h3]
            have g3 := h3
            try simp only [Bool.not_eq_true, Bool.not_eq_false, Bool.not_eq_true'] at g3
            refine ao_some [16, 17, 18, 19, 20, 21, 22] [] [1, 4, 38] tyOK (st1 := mk 116 [(1, .one (.pl [(1, 0)] 0 0)), (4, sV (wordOf p.kind)), (38, bV false)] [(1, [.bx [iC p.kind, iC p.a, iC p.b, .fz (.sl 1 ((p.keep).map eInt)), iC p.call.kind, iC p.call.ask.kind, sC p.call.ask.key, sC p.call.ask.val, sC p.call.ask.range.lo, sC p.call.ask.range.hi, iC p.call.ask.most, bC p.call.ask.back]])]) (by as_aux_lemma => kernel_rfl) ?_
            exact ao_nil (by show _ = _; kernel_rfl)
        · rw [h2]
          have g2 := h2
          try simp only [beq_iff_eq, beq_eq_false_iff_ne] at g2
          refine ao_some [9, 10, 11, 12, 13, 14, 15, 16, 17, 18, 19, 20, 21, 22] [] [1, 4, 38] tyOK (st1 := mk 116 [(1, .one (.pl [(1, 0)] 0 0)), (4, sV (wordOf p.kind)), (38, bV (((wordOf p.kind).toList == ((⟨#[]⟩ : ByteArray)).toList)))] [(1, [.bx [iC p.kind, iC p.a, iC p.b, .fz (.sl 1 ((p.keep).map eInt)), iC p.call.kind, iC p.call.ask.kind, sC p.call.ask.key, sC p.call.ask.val, sC p.call.ask.range.lo, sC p.call.ask.range.hi, iC p.call.ask.most, bC p.call.ask.back]])]) (by as_aux_lemma => kernel_rfl) ?_
          exact ao_nil (by show _ = _; kernel_rfl)
    refine a_cond (b := bif (!(((p.kind == 1)) == (!((p.call.kind == 0) && ((p.call.ask.kind == 0) && ((p.call.ask.key.toList == ((⟨#[]⟩ : ByteArray)).toList) && ((p.call.ask.val.toList == ((⟨#[]⟩ : ByteArray)).toList) && ((p.call.ask.range.lo.toList == ((⟨#[]⟩ : ByteArray)).toList) && ((p.call.ask.range.hi.toList == ((⟨#[]⟩ : ByteArray)).toList) && ((p.call.ask.most == 0) && ((p.call.ask.back == false) && true))))))))))) then true else (bif ((p.kind == 1)) then (bif (!(callOkI p.call)) then true else false) else (((wordOf p.kind).toList == ((⟨#[]⟩ : ByteArray)).toList)))) (by as_aux_lemma => kernel_rfl) (fun h4 => ?_) (fun h4 => ?_)
    · have g4 := h4
      try simp only [beq_iff_eq, beq_eq_false_iff_ne, Bool.not_eq_true, Bool.not_eq_false, Bool.not_eq_true'] at g4
      refine a_seq ?_
      refine a_run [2] tyOK (st1 := mk 116 [(2, sV ((⟨#[]⟩ : ByteArray)))] []) (by as_aux_lemma => kernel_rfl) ?_
      refine a_ret ?_
      have e : stepI p = (⟨#[]⟩ : ByteArray) := by
          rw [stepI, show c1I p = true from h4, cond_true]
      exact end_eq (res' := sV ((⟨#[]⟩ : ByteArray))) (by as_aux_lemma => kernel_rfl) (by rw [e] <;> rfl)
    · have g4 := h4
      try simp only [beq_iff_eq, beq_eq_false_iff_ne, Bool.not_eq_true, Bool.not_eq_false, Bool.not_eq_true'] at g4
      refine a_skip ?_
      refine a_seq ?_
      refine a_seq ?_
      refine a_mid (mk 116 [(1, .one (.pl [(1, 0)] 0 0)), (4, sV (wordOf p.kind)), (62, bV (bif ((p.kind != 7)) then (bif ((p.b != 0)) then true else (bif (decide ((((((p.keep).map eInt).length : Nat) : Int)) > 0)) then true else (bif ((p.kind == 5)) then ((p.a != 0)) else false))) else (bif ((p.kind == 5)) then ((p.a != 0)) else false)))] [(1, [.bx [iC p.kind, iC p.a, iC p.b, .fz (.sl 1 ((p.keep).map eInt)), iC p.call.kind, iC p.call.ask.kind, sC p.call.ask.key, sC p.call.ask.val, sC p.call.ask.range.lo, sC p.call.ask.range.hi, iC p.call.ask.most, bC p.call.ask.back]])]) ?_ ?_
      · refine a_ops [0, 1, 2, 3, 4, 5, 6, 7, 8, 9, 10, 11, 12, 13, 14, 15, 16, 17, 18, 19, 20, 21, 22, 23] (by as_aux_lemma => kernel_rfl) ?_
        refine ao_some [0, 1, 2, 3] [4, 5, 6, 7, 8, 9, 10, 11, 12, 13, 14, 15, 16, 17, 18, 19, 20, 21, 22, 23] [1, 4, 42] tyOK (st1 := mk 116 [(1, .one (.pl [(1, 0)] 0 0)), (4, sV (wordOf p.kind)), (42, bV ((p.kind != 7)))] [(1, [.bx [iC p.kind, iC p.a, iC p.b, .fz (.sl 1 ((p.keep).map eInt)), iC p.call.kind, iC p.call.ask.kind, sC p.call.ask.key, sC p.call.ask.val, sC p.call.ask.range.lo, sC p.call.ask.range.hi, iC p.call.ask.most, bC p.call.ask.back]])]) (by as_aux_lemma => kernel_rfl) ?_
        rcases Bool.eq_false_or_eq_true ((p.kind != 7)) with h5 | h5
        · rw [h5]
          have g5 := h5
          try simp only [bne_iff_ne, bne_eq_false_iff_eq, ne_eq] at g5
          refine ao_some [4, 5, 6, 7] [8, 9, 10, 11, 12, 13, 14, 15, 16, 17, 18, 19, 20, 21, 22, 23] [1, 4, 42, 46] tyOK (st1 := mk 116 [(1, .one (.pl [(1, 0)] 0 0)), (4, sV (wordOf p.kind)), (42, bV true), (46, bV ((p.b != 0)))] [(1, [.bx [iC p.kind, iC p.a, iC p.b, .fz (.sl 1 ((p.keep).map eInt)), iC p.call.kind, iC p.call.ask.kind, sC p.call.ask.key, sC p.call.ask.val, sC p.call.ask.range.lo, sC p.call.ask.range.hi, iC p.call.ask.most, bC p.call.ask.back]])]) (by as_aux_lemma => kernel_rfl) ?_
          rcases Bool.eq_false_or_eq_true ((p.b != 0)) with h6 | h6
          · rw [h6]
            have g6 := h6
            try simp only [bne_iff_ne, bne_eq_false_iff_eq, ne_eq] at g6
            refine ao_some [8, 9, 10, 11, 12, 13, 14, 15, 16, 17, 18, 19, 20, 21, 22, 23] [] [1, 4, 62] tyOK (st1 := mk 116 [(1, .one (.pl [(1, 0)] 0 0)), (4, sV (wordOf p.kind)), (62, bV true)] [(1, [.bx [iC p.kind, iC p.a, iC p.b, .fz (.sl 1 ((p.keep).map eInt)), iC p.call.kind, iC p.call.ask.kind, sC p.call.ask.key, sC p.call.ask.val, sC p.call.ask.range.lo, sC p.call.ask.range.hi, iC p.call.ask.most, bC p.call.ask.back]])]) (by as_aux_lemma => kernel_rfl) ?_
            exact ao_nil (by show _ = _; kernel_rfl)
          · rw [h6]
            have g6 := h6
            try simp only [bne_iff_ne, bne_eq_false_iff_eq, ne_eq] at g6
            refine ao_some [8, 9, 10, 11, 12, 13, 14] [15, 16, 17, 18, 19, 20, 21, 22, 23] [1, 4, 53] tyOK (st1 := mk 116 [(1, .one (.pl [(1, 0)] 0 0)), (4, sV (wordOf p.kind)), (53, bV (decide ((((((p.keep).map eInt).length : Nat) : Int)) > 0)))] [(1, [.bx [iC p.kind, iC p.a, iC p.b, .fz (.sl 1 ((p.keep).map eInt)), iC p.call.kind, iC p.call.ask.kind, sC p.call.ask.key, sC p.call.ask.val, sC p.call.ask.range.lo, sC p.call.ask.range.hi, iC p.call.ask.most, bC p.call.ask.back]])]) (by as_aux_lemma => kernel_rfl) ?_
            rcases Bool.eq_false_or_eq_true (decide ((((((p.keep).map eInt).length : Nat) : Int)) > 0)) with h7 | h7
            · rw [h7]
              have g7 := h7
              try simp only [decide_eq_true_eq, decide_eq_false_iff_not, List.length_map] at g7
              refine ao_some [15, 16, 17, 18, 19, 20, 21, 22, 23] [] [1, 4, 62] tyOK (st1 := mk 116 [(1, .one (.pl [(1, 0)] 0 0)), (4, sV (wordOf p.kind)), (62, bV true)] [(1, [.bx [iC p.kind, iC p.a, iC p.b, .fz (.sl 1 ((p.keep).map eInt)), iC p.call.kind, iC p.call.ask.kind, sC p.call.ask.key, sC p.call.ask.val, sC p.call.ask.range.lo, sC p.call.ask.range.hi, iC p.call.ask.most, bC p.call.ask.back]])]) (by as_aux_lemma => kernel_rfl) ?_
              exact ao_nil (by show _ = _; kernel_rfl)
            · rw [h7]
              have g7 := h7
              try simp only [decide_eq_true_eq, decide_eq_false_iff_not, List.length_map] at g7
              refine ao_some [15, 16, 17, 18] [19, 20, 21, 22, 23] [1, 4, 53, 57] tyOK (st1 := mk 116 [(1, .one (.pl [(1, 0)] 0 0)), (4, sV (wordOf p.kind)), (53, bV false), (57, bV ((p.kind == 5)))] [(1, [.bx [iC p.kind, iC p.a, iC p.b, .fz (.sl 1 ((p.keep).map eInt)), iC p.call.kind, iC p.call.ask.kind, sC p.call.ask.key, sC p.call.ask.val, sC p.call.ask.range.lo, sC p.call.ask.range.hi, iC p.call.ask.most, bC p.call.ask.back]])]) (by as_aux_lemma => kernel_rfl) ?_
              rcases Bool.eq_false_or_eq_true ((p.kind == 5)) with h8 | h8
              · rw [h8]
                have g8 := h8
                try simp only [beq_iff_eq, beq_eq_false_iff_ne] at g8
                refine ao_some [19, 20, 21, 22, 23] [] [1, 4, 62] tyOK (st1 := mk 116 [(1, .one (.pl [(1, 0)] 0 0)), (4, sV (wordOf p.kind)), (62, bV ((p.a != 0)))] [(1, [.bx [iC p.kind, iC p.a, iC p.b, .fz (.sl 1 ((p.keep).map eInt)), iC p.call.kind, iC p.call.ask.kind, sC p.call.ask.key, sC p.call.ask.val, sC p.call.ask.range.lo, sC p.call.ask.range.hi, iC p.call.ask.most, bC p.call.ask.back]])]) (by as_aux_lemma => kernel_rfl) ?_
                exact ao_nil (by show _ = _; kernel_rfl)
              · rw [h8]
                have g8 := h8
                try simp only [beq_iff_eq, beq_eq_false_iff_ne] at g8
                refine ao_some [19, 20, 21, 22, 23] [] [1, 4, 62] tyOK (st1 := mk 116 [(1, .one (.pl [(1, 0)] 0 0)), (4, sV (wordOf p.kind)), (62, bV false)] [(1, [.bx [iC p.kind, iC p.a, iC p.b, .fz (.sl 1 ((p.keep).map eInt)), iC p.call.kind, iC p.call.ask.kind, sC p.call.ask.key, sC p.call.ask.val, sC p.call.ask.range.lo, sC p.call.ask.range.hi, iC p.call.ask.most, bC p.call.ask.back]])]) (by as_aux_lemma => kernel_rfl) ?_
                exact ao_nil (by show _ = _; kernel_rfl)
        · rw [h5]
          have g5 := h5
          try simp only [bne_iff_ne, bne_eq_false_iff_eq, ne_eq] at g5
          refine ao_some [4, 5, 6, 7, 8, 9, 10, 11, 12, 13, 14, 15, 16, 17, 18] [19, 20, 21, 22, 23] [1, 4, 53, 57] tyOK (st1 := mk 116 [(1, .one (.pl [(1, 0)] 0 0)), (4, sV (wordOf p.kind)), (53, bV false), (57, bV ((p.kind == 5)))] [(1, [.bx [iC p.kind, iC p.a, iC p.b, .fz (.sl 1 ((p.keep).map eInt)), iC p.call.kind, iC p.call.ask.kind, sC p.call.ask.key, sC p.call.ask.val, sC p.call.ask.range.lo, sC p.call.ask.range.hi, iC p.call.ask.most, bC p.call.ask.back]])]) (by as_aux_lemma => kernel_rfl) ?_
          rcases Bool.eq_false_or_eq_true ((p.kind == 5)) with h9 | h9
          · rw [h9]
            have g9 := h9
            try simp only [beq_iff_eq, beq_eq_false_iff_ne] at g9
            refine ao_some [19, 20, 21, 22, 23] [] [1, 4, 62] tyOK (st1 := mk 116 [(1, .one (.pl [(1, 0)] 0 0)), (4, sV (wordOf p.kind)), (62, bV ((p.a != 0)))] [(1, [.bx [iC p.kind, iC p.a, iC p.b, .fz (.sl 1 ((p.keep).map eInt)), iC p.call.kind, iC p.call.ask.kind, sC p.call.ask.key, sC p.call.ask.val, sC p.call.ask.range.lo, sC p.call.ask.range.hi, iC p.call.ask.most, bC p.call.ask.back]])]) (by as_aux_lemma => kernel_rfl) ?_
            exact ao_nil (by show _ = _; kernel_rfl)
          · rw [h9]
            have g9 := h9
            try simp only [beq_iff_eq, beq_eq_false_iff_ne] at g9
            refine ao_some [19, 20, 21, 22, 23] [] [1, 4, 62] tyOK (st1 := mk 116 [(1, .one (.pl [(1, 0)] 0 0)), (4, sV (wordOf p.kind)), (62, bV false)] [(1, [.bx [iC p.kind, iC p.a, iC p.b, .fz (.sl 1 ((p.keep).map eInt)), iC p.call.kind, iC p.call.ask.kind, sC p.call.ask.key, sC p.call.ask.val, sC p.call.ask.range.lo, sC p.call.ask.range.hi, iC p.call.ask.most, bC p.call.ask.back]])]) (by as_aux_lemma => kernel_rfl) ?_
            exact ao_nil (by show _ = _; kernel_rfl)
      refine a_cond (b := bif ((p.kind != 7)) then (bif ((p.b != 0)) then true else (bif (decide ((((((p.keep).map eInt).length : Nat) : Int)) > 0)) then true else (bif ((p.kind == 5)) then ((p.a != 0)) else false))) else (bif ((p.kind == 5)) then ((p.a != 0)) else false)) (by as_aux_lemma => kernel_rfl) (fun h10 => ?_) (fun h10 => ?_)
      · have g10 := h10
        try simp only [decide_eq_true_eq, decide_eq_false_iff_not, List.length_map, bne_iff_ne, bne_eq_false_iff_eq, ne_eq, beq_iff_eq, beq_eq_false_iff_ne] at g10
        refine a_seq ?_
        refine a_run [2] tyOK (st1 := mk 116 [(2, sV ((⟨#[]⟩ : ByteArray)))] []) (by as_aux_lemma => kernel_rfl) ?_
        refine a_ret ?_
        have e : stepI p = (⟨#[]⟩ : ByteArray) := by
            rw [stepI, show c1I p = false from h4, cond_false, show c2I p = true from h10, cond_true]
        exact end_eq (res' := sV ((⟨#[]⟩ : ByteArray))) (by as_aux_lemma => kernel_rfl) (by rw [e] <;> rfl)
      · have g10 := h10
        try simp only [decide_eq_true_eq, decide_eq_false_iff_not, List.length_map, bne_iff_ne, bne_eq_false_iff_eq, ne_eq, beq_iff_eq, beq_eq_false_iff_ne] at g10
        refine a_skip ?_
        refine a_seq ?_
        refine a_ops [0, 1, 2, 3, 4, 5] (by as_aux_lemma => kernel_rfl) ?_
        refine ao_some [0, 1, 2] [3, 4, 5] [1, 63, 65] tyOK (st1 := mk 116 [(1, .one (.pl [(1, 0)] 0 0)), (63, sV (wordOf p.kind)), (65, iV p.a)] [(1, [.bx [iC p.kind, iC p.a, iC p.b, .fz (.sl 1 ((p.keep).map eInt)), iC p.call.kind, iC p.call.ask.kind, sC p.call.ask.key, sC p.call.ask.val, sC p.call.ask.range.lo, sC p.call.ask.range.hi, iC p.call.ask.most, bC p.call.ask.back]])]) (by as_aux_lemma => kernel_rfl) ?_
        refine ao_enter (f := 19) (d := 66) (A := [iV p.a]) (st1 := mk 116 [(1, .one (.pl [(1, 0)] 0 0)), (63, sV (wordOf p.kind)), (66, sV (numText p.a))] [(1, [.bx [iC p.kind, iC p.a, iC p.b, .fz (.sl 1 ((p.keep).map eInt)), iC p.call.kind, iC p.call.ask.kind, sC p.call.ask.key, sC p.call.ask.val, sC p.call.ask.range.lo, sC p.call.ask.range.hi, iC p.call.ask.most, bC p.call.ask.back]])]) [1, 63, 66] (okNumTextI p.a) Try.call19 (by as_aux_lemma => kernel_rfl) (by as_aux_lemma => kernel_rfl) (by as_aux_lemma => kernel_rfl) ?_
        refine ao_some [4, 5] [] [1, 5] tyOK (st1 := mk 116 [(1, .one (.pl [(1, 0)] 0 0)), (5, .one (.so [] 67 0 2))] [(1, [.bx [iC p.kind, iC p.a, iC p.b, .fz (.sl 1 ((p.keep).map eInt)), iC p.call.kind, iC p.call.ask.kind, sC p.call.ask.key, sC p.call.ask.val, sC p.call.ask.range.lo, sC p.call.ask.range.hi, iC p.call.ask.most, bC p.call.ask.back]]), (67, [.sl 1 ([[sC (wordOf p.kind)], [sC (numText p.a)]])])]) (by as_aux_lemma => kernel_rfl) ?_
        refine ao_nil ?_
        refine a_seq ?_
        refine a_seq ?_
        refine a_run [1, 5, 69] tyOK (st1 := mk 116 [(1, .one (.pl [(1, 0)] 0 0)), (5, .one (.so [] 67 0 2)), (69, iV p.kind)] [(1, [.bx [iC p.kind, iC p.a, iC p.b, .fz (.sl 1 ((p.keep).map eInt)), iC p.call.kind, iC p.call.ask.kind, sC p.call.ask.key, sC p.call.ask.val, sC p.call.ask.range.lo, sC p.call.ask.range.hi, iC p.call.ask.most, bC p.call.ask.back]]), (67, [.sl 1 ([[sC (wordOf p.kind)], [sC (numText p.a)]])])]) (by as_aux_lemma => kernel_rfl) ?_
        refine a_mid2 (mk 116 [(5, .one (.c (.sl 1 ((wordsI p).map eStr))))] []) ?_ ?_
        · refine a_block ?_
          refine a_seq ?_
          refine a_run [1, 5, 69, 70] tyOK (st1 := mk 116 [(1, .one (.pl [(1, 0)] 0 0)), (5, .one (.so [] 67 0 2)), (69, iV p.kind), (70, bV ((p.kind == 1)))] [(1, [.bx [iC p.kind, iC p.a, iC p.b, .fz (.sl 1 ((p.keep).map eInt)), iC p.call.kind, iC p.call.ask.kind, sC p.call.ask.key, sC p.call.ask.val, sC p.call.ask.range.lo, sC p.call.ask.range.hi, iC p.call.ask.most, bC p.call.ask.back]]), (67, [.sl 1 ([[sC (wordOf p.kind)], [sC (numText p.a)]])])]) (by as_aux_lemma => kernel_rfl) ?_
          refine a_cond (b := (p.kind == 1)) (by as_aux_lemma => kernel_rfl) (fun h11 => ?_) (fun h11 => ?_)
          · have g11 := h11
            try simp only [beq_iff_eq, beq_eq_false_iff_ne] at g11
            refine a_mid (mk 116 [(5, .one (.so [] 79 0 (([(⟨#[99, 97, 108, 108]⟩ : ByteArray), numText p.a] ++ callWords p.call).length)))] [(79, [.sl 1 (([(⟨#[99, 97, 108, 108]⟩ : ByteArray), numText p.a] ++ callWords p.call).map eStr)])]) ?_ ?_
            · refine a_drawn (n := 9) [7] (by as_aux_lemma => kernel_rfl) (by as_aux_lemma => kernel_rfl) ?_
              refine aa_take (fuel := 5) (listed' := #[true, true, false, false, true, true, false, false, false]) (st' := mk 116 [(73, iV p.a), (77, .agg [.c (iC p.call.kind), .c (iC p.call.ask.kind), .c (sC p.call.ask.key), .c (sC p.call.ask.val), .c (sC p.call.ask.range.lo), .c (sC p.call.ask.range.hi), .c (iC p.call.ask.most), .c (bC p.call.ask.back)])] []) [0, 1, 4, 5] [73, 77] tyOK (by as_aux_lemma => kernel_rfl) (by as_aux_lemma => kernel_rfl) (by as_aux_lemma => kernel_rfl) ?_
              refine aa_all [2] (by as_aux_lemma => kernel_rfl) rfl ?_
              refine aa_cons ?_ aa_nil
              refine aone_enter (listed' := #[true, true, true, false, true, true, false, false, false]) (f := 19) (d := 74) (A := [iV p.a]) (st1 := mk 116 [(74, sV (numText p.a)), (77, .agg [.c (iC p.call.kind), .c (iC p.call.ask.kind), .c (sC p.call.ask.key), .c (sC p.call.ask.val), .c (sC p.call.ask.range.lo), .c (sC p.call.ask.range.hi), .c (iC p.call.ask.most), .c (bC p.call.ask.back)])] []) [74, 77] (okNumTextI p.a) Try.call19 (by as_aux_lemma => kernel_rfl) (by as_aux_lemma => kernel_rfl) (by as_aux_lemma => kernel_rfl) (by as_aux_lemma => kernel_rfl) ?_
              refine aa_all [3, 6] (by as_aux_lemma => kernel_rfl) rfl ?_
              refine aa_cons ?_ ?_
              · refine aone_any (listed' := #[true, true, true, true, true, true, false, false, false]) (st1 := mk 116 [(75, .one (.so [] 75 0 2)), (77, .agg [.c (iC p.call.kind), .c (iC p.call.ask.kind), .c (sC p.call.ask.key), .c (sC p.call.ask.val), .c (sC p.call.ask.range.lo), .c (sC p.call.ask.range.hi), .c (iC p.call.ask.most), .c (bC p.call.ask.back)])] [(75, [.sl 1 ([[sC ((⟨#[99, 97, 108, 108]⟩ : ByteArray))], [sC (numText p.a)]])])]) [75, 77] tyOK (by as_aux_lemma => kernel_rfl) (by as_aux_lemma => kernel_rfl) ?_
                refine aa_all [6] (by as_aux_lemma => kernel_rfl) rfl ?_
                refine aa_cons ?_ aa_nil
                refine aone_enter (listed' := #[true, true, true, true, true, true, true, false, false]) (f := 20) (d := 78) (A := [.agg [.c (iC p.call.kind), .c (iC p.call.ask.kind), .c (sC p.call.ask.key), .c (sC p.call.ask.val), .c (sC p.call.ask.range.lo), .c (sC p.call.ask.range.hi), .c (iC p.call.ask.most), .c (bC p.call.ask.back)]]) (st1 := mk 116 [(75, .one (.so [] 75 0 2)), (78, .one (.c (.sl 1 ((callWords p.call).map eStr))))] [(75, [.sl 1 ([[sC ((⟨#[99, 97, 108, 108]⟩ : ByteArray))], [sC (numText p.a)]])])]) [75, 78] (ok20 p.call) Try.call20 (by as_aux_lemma => kernel_rfl) (by as_aux_lemma => kernel_rfl) (by as_aux_lemma => kernel_rfl) (by as_aux_lemma => kernel_rfl) ?_
                refine aa_all [7] (by as_aux_lemma => kernel_rfl) rfl ?_
                refine aa_cons ?_ aa_nil
                refine aone_append (listed' := #[true, true, true, true, true, true, true, true, false]) (d := 79) (n := 2) (n' := (([(⟨#[99, 97, 108, 108]⟩ : ByteArray), numText p.a] ++ callWords p.call).length)) (bytes := 16) (size := 1) (src := (some ([], 75, 0))) (rows := [[sC ((⟨#[99, 97, 108, 108]⟩ : ByteArray))], [sC (numText p.a)]]) (tx := .one (.c (.sl 1 ((callWords p.call).map eStr)))) (new := ((callWords p.call).map eStr).map (List.map frzC)) (rows' := ([(⟨#[99, 97, 108, 108]⟩ : ByteArray), numText p.a] ++ callWords p.call).map eStr) (st1 := mk 116 [(79, .one (.so [] 79 0 (([(⟨#[99, 97, 108, 108]⟩ : ByteArray), numText p.a] ++ callWords p.call).length)))] [(79, [.sl 1 (([(⟨#[99, 97, 108, 108]⟩ : ByteArray), numText p.a] ++ callWords p.call).map eStr)])]) [79] tyOK (by as_aux_lemma => kernel_rfl) (appRows_fz (by simp [eStr])) (rfl) (by have := callWords_len p.call; simp only [List.length_map, List.length_cons, List.length_nil]; omega) (by as_aux_lemma => kernel_rfl) (by simp [eStr, frzC]) (by simp; omega) (by as_aux_lemma => kernel_rfl) (by as_aux_lemma => kernel_rfl) (by as_aux_lemma => kernel_rfl) ?_
                refine aa_take (fuel := 0) (listed' := #[true, true, true, true, true, true, true, true, true]) (st' := mk 116 [(5, .one (.so [] 79 0 (([(⟨#[99, 97, 108, 108]⟩ : ByteArray), numText p.a] ++ callWords p.call).length)))] [(79, [.sl 1 (([(⟨#[99, 97, 108, 108]⟩ : ByteArray), numText p.a] ++ callWords p.call).map eStr)])]) [8] [5] tyOK (by as_aux_lemma => kernel_rfl) (by as_aux_lemma => kernel_rfl) (by as_aux_lemma => kernel_rfl) ?_
                refine aa_done (by as_aux_lemma => kernel_rfl) ?_
                show _ = _; kernel_rfl
              refine aa_cons ?_ aa_nil
              refine aone_enter (listed' := #[true, true, true, false, true, true, true, false, false]) (f := 20) (d := 78) (A := [.agg [.c (iC p.call.kind), .c (iC p.call.ask.kind), .c (sC p.call.ask.key), .c (sC p.call.ask.val), .c (sC p.call.ask.range.lo), .c (sC p.call.ask.range.hi), .c (iC p.call.ask.most), .c (bC p.call.ask.back)]]) (st1 := mk 116 [(74, sV (numText p.a)), (78, .one (.c (.sl 1 ((callWords p.call).map eStr))))] []) [74, 78] (ok20 p.call) Try.call20 (by as_aux_lemma => kernel_rfl) (by as_aux_lemma => kernel_rfl) (by as_aux_lemma => kernel_rfl) (by as_aux_lemma => kernel_rfl) ?_
              refine aa_all [3] (by as_aux_lemma => kernel_rfl) rfl ?_
              refine aa_cons ?_ aa_nil
              refine aone_any (listed' := #[true, true, true, true, true, true, true, false, false]) (st1 := mk 116 [(75, .one (.so [] 75 0 2)), (78, .one (.c (.sl 1 ((callWords p.call).map eStr))))] [(75, [.sl 1 ([[sC ((⟨#[99, 97, 108, 108]⟩ : ByteArray))], [sC (numText p.a)]])])]) [75, 78] tyOK (by as_aux_lemma => kernel_rfl) (by as_aux_lemma => kernel_rfl) ?_
              refine aa_all [7] (by as_aux_lemma => kernel_rfl) rfl ?_
              refine aa_cons ?_ aa_nil
              refine aone_append (listed' := #[true, true, true, true, true, true, true, true, false]) (d := 79) (n := 2) (n' := (([(⟨#[99, 97, 108, 108]⟩ : ByteArray), numText p.a] ++ callWords p.call).length)) (bytes := 16) (size := 1) (src := (some ([], 75, 0))) (rows := [[sC ((⟨#[99, 97, 108, 108]⟩ : ByteArray))], [sC (numText p.a)]]) (tx := .one (.c (.sl 1 ((callWords p.call).map eStr)))) (new := ((callWords p.call).map eStr).map (List.map frzC)) (rows' := ([(⟨#[99, 97, 108, 108]⟩ : ByteArray), numText p.a] ++ callWords p.call).map eStr) (st1 := mk 116 [(79, .one (.so [] 79 0 (([(⟨#[99, 97, 108, 108]⟩ : ByteArray), numText p.a] ++ callWords p.call).length)))] [(79, [.sl 1 (([(⟨#[99, 97, 108, 108]⟩ : ByteArray), numText p.a] ++ callWords p.call).map eStr)])]) [79] tyOK (by as_aux_lemma => kernel_rfl) (appRows_fz (by simp [eStr])) (rfl) (by have := callWords_len p.call; simp only [List.length_map, List.length_cons, List.length_nil]; omega) (by as_aux_lemma => kernel_rfl) (by simp [eStr, frzC]) (by simp; omega) (by as_aux_lemma => kernel_rfl) (by as_aux_lemma => kernel_rfl) (by as_aux_lemma => kernel_rfl) ?_
              refine aa_take (fuel := 0) (listed' := #[true, true, true, true, true, true, true, true, true]) (st' := mk 116 [(5, .one (.so [] 79 0 (([(⟨#[99, 97, 108, 108]⟩ : ByteArray), numText p.a] ++ callWords p.call).length)))] [(79, [.sl 1 (([(⟨#[99, 97, 108, 108]⟩ : ByteArray), numText p.a] ++ callWords p.call).map eStr)])]) [8] [5] tyOK (by as_aux_lemma => kernel_rfl) (by as_aux_lemma => kernel_rfl) (by as_aux_lemma => kernel_rfl) ?_
              refine aa_done (by as_aux_lemma => kernel_rfl) ?_
              show _ = _; kernel_rfl
            show Imp _ _ (mk 116 [(5, .one (.c (.sl 1 ((wordsI p).map eStr))))] [])
            refine imp_freezeAt (fun _ _ h => h) [] 79 0 5 [5] (n := (([(⟨#[99, 97, 108, 108]⟩ : ByteArray), numText p.a] ++ callWords p.call).length)) (rs := ([(⟨#[99, 97, 108, 108]⟩ : ByteArray), numText p.a] ++ callWords p.call).map eStr) (s1 := mk 116 [(5, .one (.c (.sl 1 (([(⟨#[99, 97, 108, 108]⟩ : ByteArray), numText p.a] ++ callWords p.call).map eStr))))] []) (by as_aux_lemma => kernel_rfl) (by simp) ?_
            have e : wordsI p = [(⟨#[99, 97, 108, 108]⟩ : ByteArray), numText p.a] ++ callWords p.call := by rw [wordsI, h11, cond_true]
            exact imp_done (by rw [e] <;> rfl)
          · have g11 := h11
            try simp only [beq_iff_eq, beq_eq_false_iff_ne] at g11
            refine a_seq ?_
            refine a_run [1, 5, 69, 80] tyOK (st1 := mk 116 [(1, .one (.pl [(1, 0)] 0 0)), (5, .one (.so [] 67 0 2)), (69, iV p.kind), (80, bV ((p.kind == 5)))] [(1, [.bx [iC p.kind, iC p.a, iC p.b, .fz (.sl 1 ((p.keep).map eInt)), iC p.call.kind, iC p.call.ask.kind, sC p.call.ask.key, sC p.call.ask.val, sC p.call.ask.range.lo, sC p.call.ask.range.hi, iC p.call.ask.most, bC p.call.ask.back]]), (67, [.sl 1 ([[sC (wordOf p.kind)], [sC (numText p.a)]])])]) (by as_aux_lemma => kernel_rfl) ?_
            refine a_cond (b := (p.kind == 5)) (by as_aux_lemma => kernel_rfl) (fun h12 => ?_) (fun h12 => ?_)
            · have g12 := h12
              try simp only [beq_iff_eq, beq_eq_false_iff_ne] at g12
              refine a_ops [0, 1, 2] (by as_aux_lemma => kernel_rfl) ?_
              refine ao_some [0] [1, 2] [82] tyOK (st1 := mk 116 [(82, .one (.so [] 67 0 2))] [(67, [.sl 1 ([[sC (wordOf p.kind)], [sC (numText p.a)]])])]) (by as_aux_lemma => kernel_rfl) ?_
              refine ao_freeze (fun _ _ h => h) [] 67 0 [82] (st' := mk 116 [(82, .one (.c (.sl 1 ([[sC (wordOf p.kind)], [sC (numText p.a)]]))))] []) (by as_aux_lemma => kernel_rfl) ?_
              refine ao_some [1, 2] [] [5] tyOK (st1 := mk 116 [(5, .one (.c (.sl 1 ([[sC (wordOf p.kind)]]))))] []) (by as_aux_lemma => kernel_rfl) ?_
              refine ao_nil ?_
              show Imp _ _ (mk 116 [(5, .one (.c (.sl 1 ((wordsI p).map eStr))))] [])
              refine imp_keepTo [5] (s1 := mk 116 [(5, .one (.c (.sl 1 ([[sC (wordOf p.kind)]]))))] []) (by as_aux_lemma => kernel_rfl) ?_
              have e : wordsI p = [wordOf p.kind] := by rw [wordsI, h11, cond_false, h12, cond_true]
              exact imp_done (by rw [e] <;> rfl)
            · have g12 := h12
              try simp only [beq_iff_eq, beq_eq_false_iff_ne] at g12
              refine a_seq ?_
              refine a_run [1, 5, 84] tyOK (st1 := mk 116 [(1, .one (.pl [(1, 0)] 0 0)), (5, .one (.so [] 67 0 2)), (84, bV ((p.kind == 7)))] [(1, [.bx [iC p.kind, iC p.a, iC p.b, .fz (.sl 1 ((p.keep).map eInt)), iC p.call.kind, iC p.call.ask.kind, sC p.call.ask.key, sC p.call.ask.val, sC p.call.ask.range.lo, sC p.call.ask.range.hi, iC p.call.ask.most, bC p.call.ask.back]]), (67, [.sl 1 ([[sC (wordOf p.kind)], [sC (numText p.a)]])])]) (by as_aux_lemma => kernel_rfl) ?_
              refine a_cond (b := (p.kind == 7)) (by as_aux_lemma => kernel_rfl) (fun h13 => ?_) (fun h13 => ?_)
              · have g13 := h13
                try simp only [beq_iff_eq, beq_eq_false_iff_ne] at g13
                refine a_seq ?_
                refine a_ops [0, 1, 2, 3, 4, 5, 6] (by as_aux_lemma => kernel_rfl) ?_
                refine ao_some [0, 1, 2] [3, 4, 5, 6] [1, 86, 88] tyOK (st1 := mk 116 [(1, .one (.pl [(1, 0)] 0 0)), (86, .one (.so [] 67 0 2)), (88, iV p.b)] [(1, [.bx [iC p.kind, iC p.a, iC p.b, .fz (.sl 1 ((p.keep).map eInt)), iC p.call.kind, iC p.call.ask.kind, sC p.call.ask.key, sC p.call.ask.val, sC p.call.ask.range.lo, sC p.call.ask.range.hi, iC p.call.ask.most, bC p.call.ask.back]]), (67, [.sl 1 ([[sC (wordOf p.kind)], [sC (numText p.a)]])])]) (by as_aux_lemma => kernel_rfl) ?_
                refine ao_enter (f := 19) (d := 89) (A := [iV p.b]) (st1 := mk 116 [(1, .one (.pl [(1, 0)] 0 0)), (86, .one (.so [] 67 0 2)), (89, sV (numText p.b))] [(1, [.bx [iC p.kind, iC p.a, iC p.b, .fz (.sl 1 ((p.keep).map eInt)), iC p.call.kind, iC p.call.ask.kind, sC p.call.ask.key, sC p.call.ask.val, sC p.call.ask.range.lo, sC p.call.ask.range.hi, iC p.call.ask.most, bC p.call.ask.back]]), (67, [.sl 1 ([[sC (wordOf p.kind)], [sC (numText p.a)]])])]) [1, 86, 89] (okNumTextI p.b) Try.call19 (by as_aux_lemma => kernel_rfl) (by as_aux_lemma => kernel_rfl) (by as_aux_lemma => kernel_rfl) ?_
                refine ao_some [4, 5, 6] [] [1, 5] tyOK (st1 := mk 116 [(1, .one (.pl [(1, 0)] 0 0)), (5, .one (.so [] 91 0 3))] [(1, [.bx [iC p.kind, iC p.a, iC p.b, .fz (.sl 1 ((p.keep).map eInt)), iC p.call.kind, iC p.call.ask.kind, sC p.call.ask.key, sC p.call.ask.val, sC p.call.ask.range.lo, sC p.call.ask.range.hi, iC p.call.ask.most, bC p.call.ask.back]]), (91, [.sl 1 ([[sC (wordOf p.kind)], [sC (numText p.a)], [sC (numText p.b)]])])]) (by as_aux_lemma => kernel_rfl) ?_
                refine ao_nil ?_
                refine a_seq ?_
                refine a_run [5, 93, 94, 95] tyOK (st1 := mk 116 [(5, .one (.so [] 91 0 3)), (93, .one (.c (.sl 1 ((p.keep).map eInt)))), (94, iV (((((p.keep).map eInt).length : Nat) : Int))), (95, iV 0)] [(91, [.sl 1 ([[sC (wordOf p.kind)], [sC (numText p.a)], [sC (numText p.b)]])])]) (by as_aux_lemma => kernel_rfl) ?_
                refine a_block ?_
                refine a_keep [5, 93, 94, 95] ?_
                refine a_loop (ι := L7_1 p) (fun ⟨k, ws, _⟩ => mk 116 [(5, .one (.so [] 91 0 ws.length)), (93, .one (.c (.sl 1 ((p.keep).map eInt)))), (94, iV (((((p.keep).map eInt).length : Nat) : Int))), (95, iV (((k : Nat) : Int)))] [(91, [.sl 1 ((ws).map eStr)])]) (fun ⟨k, ws, _⟩ => p.keep.length - k) ⟨0, ([wordOf p.kind, numText p.a, numText p.b]), Nat.zero_le _, rfl⟩ (by as_aux_lemma => kernel_rfl) ?_
                rintro ⟨k, ws, hI⟩
                obtain ⟨hk, hW⟩ := hI
                show AWp _ _ _ _ (mk 116 [(5, .one (.so [] 91 0 ws.length)), (93, .one (.c (.sl 1 ((p.keep).map eInt)))), (94, iV (((((p.keep).map eInt).length : Nat) : Int))), (95, iV (((k : Nat) : Int)))] [(91, [.sl 1 ((ws).map eStr)])])
                refine a_seq ?_
                refine a_run [5, 93, 94, 95, 96] tyOK (st1 := mk 116 [(5, .one (.so [] 91 0 ws.length)), (93, .one (.c (.sl 1 ((p.keep).map eInt)))), (94, iV (((((p.keep).map eInt).length : Nat) : Int))), (95, iV (((k : Nat) : Int))), (96, bV (decide ((((k : Nat) : Int)) < (((((p.keep).map eInt).length : Nat) : Int)))))] [(91, [.sl 1 ((ws).map eStr)])]) (by as_aux_lemma => kernel_rfl) ?_
                refine a_seq ?_
                refine a_cond (b := decide ((((k : Nat) : Int)) < (((((p.keep).map eInt).length : Nat) : Int)))) (by as_aux_lemma => kernel_rfl) (fun h14 => ?_) (fun h14 => ?_)
                · have g14 := h14
                  try simp only [decide_eq_true_eq, decide_eq_false_iff_not, List.length_map] at g14
                  refine a_keepTo [5, 93, 94, 95] (st1 := mk 116 [(5, .one (.so [] 91 0 ws.length)), (93, .one (.c (.sl 1 ((p.keep).map eInt)))), (94, iV (((((p.keep).map eInt).length : Nat) : Int))), (95, iV (((k : Nat) : Int)))] [(91, [.sl 1 ((ws).map eStr)])]) (by as_aux_lemma => kernel_rfl) ?_
                  refine a_skip ?_
                  refine a_seq ?_
                  refine a_block ?_
                  refine a_seq ?_
                  refine a_ops [0, 1, 2] (by as_aux_lemma => kernel_rfl) ?_
                  have p1 : 0 ≤ (((k : Nat) : Int)) ∧ (((k : Nat) : Int)).toNat < (p.keep).length := by first | omega | (rw [mv_wrap (by omega) (by omega)]; omega)
                  obtain ⟨x1, q1⟩ : ∃ x, (p.keep)[(((k : Nat) : Int)).toNat]? = some x := ⟨_, List.getElem?_eq_getElem p1.2⟩
                  have r1 := q1
                  try simp only [Int.toNat_natCast] at r1
                  refine ao_index (d := 97) (size := 1) (n := ((k : Nat) : Int)) (rows := (p.keep).map eInt) (st1 := mk 116 [(5, .one (.so [] 91 0 ws.length)), (93, .one (.c (.sl 1 ((p.keep).map eInt)))), (94, iV (((((p.keep).map eInt).length : Nat) : Int))), (95, iV (((k : Nat) : Int))), (97, .one (.fp [iC x1] 0))] [(91, [.sl 1 ((ws).map eStr)])]) (eInt x1) [5, 93, 94, 95, 97] tyOK (by as_aux_lemma => kernel_rfl) p1.1 (by rw [List.getElem?_map, q1]; rfl) (by as_aux_lemma => kernel_rfl) (by as_aux_lemma => kernel_rfl) ?_
                  refine ao_some [1, 2] [] [5, 7, 93, 94, 95] tyOK (st1 := mk 116 [(5, .one (.so [] 91 0 ws.length)), (7, iV x1), (93, .one (.c (.sl 1 ((p.keep).map eInt)))), (94, iV (((((p.keep).map eInt).length : Nat) : Int))), (95, iV (((k : Nat) : Int)))] [(91, [.sl 1 ((ws).map eStr)])]) (by as_aux_lemma => kernel_rfl) ?_
                  refine ao_nil ?_
                  refine a_ops [0, 1, 2, 3, 4, 5] (by as_aux_lemma => kernel_rfl) ?_
                  refine ao_some [0, 1] [2, 3, 4, 5] [93, 94, 95, 99, 100] tyOK (st1 := mk 116 [(93, .one (.c (.sl 1 ((p.keep).map eInt)))), (94, iV (((((p.keep).map eInt).length : Nat) : Int))), (95, iV (((k : Nat) : Int))), (99, .one (.so [] 91 0 ws.length)), (100, iV x1)] [(91, [.sl 1 ((ws).map eStr)])]) (by as_aux_lemma => kernel_rfl) ?_
                  refine ao_enter (f := 19) (d := 101) (A := [iV x1]) (st1 := mk 116 [(93, .one (.c (.sl 1 ((p.keep).map eInt)))), (94, iV (((((p.keep).map eInt).length : Nat) : Int))), (95, iV (((k : Nat) : Int))), (99, .one (.so [] 91 0 ws.length)), (101, sV (numText x1))] [(91, [.sl 1 ((ws).map eStr)])]) [93, 94, 95, 99, 101] (okNumTextI x1) Try.call19 (by as_aux_lemma => kernel_rfl) (by as_aux_lemma => kernel_rfl) (by as_aux_lemma => kernel_rfl) ?_
                  refine ao_some [3] [4, 5] [93, 94, 95, 99, 102] tyOK (st1 := mk 116 [(93, .one (.c (.sl 1 ((p.keep).map eInt)))), (94, iV (((((p.keep).map eInt).length : Nat) : Int))), (95, iV (((k : Nat) : Int))), (99, .one (.so [] 91 0 ws.length)), (102, .one (.so [] 102 0 1))] [(91, [.sl 1 ((ws).map eStr)]), (102, [.sl 1 ([[sC (numText x1)]])])]) (by as_aux_lemma => kernel_rfl) ?_
                  refine ao_append (d := 103) (n := ws.length) (n' := ((ws ++ [numText x1]).length)) (bytes := 16) (size := 1) (src := (some ([], 91, 0))) (rows := (ws).map eStr) (tx := .one (.so [] 102 0 1)) (new := [[sC (numText x1)]]) (rows' := (ws ++ [numText x1]).map eStr) (st1 := mk 116 [(93, .one (.c (.sl 1 ((p.keep).map eInt)))), (94, iV (((((p.keep).map eInt).length : Nat) : Int))), (95, iV (((k : Nat) : Int))), (103, .one (.so [] 103 0 ((ws ++ [numText x1]).length)))] [(103, [.sl 1 ((ws ++ [numText x1]).map eStr)])]) [93, 94, 95, 103] tyOK (by as_aux_lemma => kernel_rfl) (by as_aux_lemma => kernel_rfl) (List.length_map _) (by have hl : ws.length ≤ 3 + k := (by rw [hW]; simp [List.length_take]; omega); simp only [List.length_map, List.length_cons, List.length_nil]; omega) (by as_aux_lemma => kernel_rfl) (by rw [List.map_append]; rfl) (by simp) (by as_aux_lemma => kernel_rfl) ?_
                  refine ao_some [5] [] [5, 93, 94, 95] tyOK (st1 := mk 116 [(5, .one (.so [] 103 0 ((ws ++ [numText x1]).length))), (93, .one (.c (.sl 1 ((p.keep).map eInt)))), (94, iV (((((p.keep).map eInt).length : Nat) : Int))), (95, iV (((k : Nat) : Int)))] [(103, [.sl 1 ((ws ++ [numText x1]).map eStr)])]) (by as_aux_lemma => kernel_rfl) ?_
                  refine ao_nil ?_
                  refine a_rename 103 91 5 [5, 93, 94, 95] (st1 := mk 116 [(5, .one (.so [] 91 0 ((ws ++ [numText x1]).length))), (93, .one (.c (.sl 1 ((p.keep).map eInt)))), (94, iV (((((p.keep).map eInt).length : Nat) : Int))), (95, iV (((k : Nat) : Int)))] [(91, [.sl 1 ((ws ++ [numText x1]).map eStr)])]) (by as_aux_lemma => kernel_rfl) ?_
                  refine a_run [5, 93, 94, 95] tyOK (st1 := mk 116 [(5, .one (.so [] 91 0 ((ws ++ [numText x1]).length))), (93, .one (.c (.sl 1 ((p.keep).map eInt)))), (94, iV (((((p.keep).map eInt).length : Nat) : Int))), (95, iV (IntKind.wrap .i64 ((((k : Nat) : Int)) + 1)))] [(91, [.sl 1 ((ws ++ [numText x1]).map eStr)])]) (by as_aux_lemma => kernel_rfl) ?_
                  refine ⟨⟨(k + 1), (ws ++ [numText x1]), ?_⟩, ?_, ?_⟩
                  · exact ⟨by omega, by rw [hW]; simp [List.take_add_one, r1]⟩
                  · exact (show _ = mk 116 [(5, .one (.so [] 91 0 ((ws ++ [numText x1]).length))), (93, .one (.c (.sl 1 ((p.keep).map eInt)))), (94, iV (((((p.keep).map eInt).length : Nat) : Int))), (95, iV (IntKind.wrap .i64 ((((k : Nat) : Int)) + 1)))] [(91, [.sl 1 ((ws ++ [numText x1]).map eStr)])] by kernel_rfl).trans (by rw [mv_wrap (n := (k : Int) + 1) (by omega) (by omega)]; rfl)
                  · dsimp only; omega
                · have g14 := h14
                  try simp only [decide_eq_true_eq, decide_eq_false_iff_not, List.length_map] at g14
                  refine a_exit ?_
                  show Imp _ _ (mk 116 [(5, .one (.c (.sl 1 ((wordsI p).map eStr))))] [])
                  refine imp_freezeAt (fun _ _ h => h) [] 91 0 5 [5] (n := ws.length) (rs := (ws).map eStr) (s1 := mk 116 [(5, .one (.c (.sl 1 ((ws).map eStr))))] []) (by as_aux_lemma => kernel_rfl) (by simp) ?_
                  have e : wordsI p = ws := by rw [wordsI, h11, cond_false, h12, cond_false, h13, cond_true, hW, List.take_of_length_le (by omega)]
                  exact imp_done (by rw [e] <;> rfl)
              · have g13 := h13
                try simp only [beq_iff_eq, beq_eq_false_iff_ne] at g13
                refine a_keepTo [5] (st1 := mk 116 [(5, .one (.so [] 67 0 2))] [(67, [.sl 1 ([[sC (wordOf p.kind)], [sC (numText p.a)]])])]) (by as_aux_lemma => kernel_rfl) ?_
                refine a_skip ?_
                show Imp _ _ (mk 116 [(5, .one (.c (.sl 1 ((wordsI p).map eStr))))] [])
                refine imp_freeze (fun _ _ h => h) [] 67 0 [5] (s1 := mk 116 [(5, .one (.c (.sl 1 ([[sC (wordOf p.kind)], [sC (numText p.a)]]))))] []) (by as_aux_lemma => kernel_rfl) ?_
                have e : wordsI p = [wordOf p.kind, numText p.a] := by rw [wordsI, h11, cond_false, h12, cond_false, h13, cond_false]
                exact imp_done (by rw [e] <;> rfl)
        refine a_seq ?_
        refine a_seq ?_
        refine a_run [5, 105, 106, 107] tyOK (st1 := mk 116 [(5, .one (.c (.sl 1 ((wordsI p).map eStr)))), (105, .one (.c (.sl 1 ((wordsI p).map eStr)))), (106, iV (((((wordsI p).map eStr).length : Nat) : Int))), (107, iV 0)] []) (by as_aux_lemma => kernel_rfl) ?_
        refine a_block ?_
        refine a_keep [5, 105, 106, 107] ?_
        refine a_loop (ι := L7_2 p) (fun ⟨k, _⟩ => mk 116 [(5, .one (.c (.sl 1 ((wordsI p).map eStr)))), (105, .one (.c (.sl 1 ((wordsI p).map eStr)))), (106, iV (((((wordsI p).map eStr).length : Nat) : Int))), (107, iV (((k : Nat) : Int)))] []) (fun ⟨k, _⟩ => (wordsI p).length - k) ⟨0, Nat.zero_le _, rfl⟩ (by as_aux_lemma => kernel_rfl) ?_
        rintro ⟨k, hI⟩
        obtain ⟨hk, hN⟩ := hI
        have hl := wordsI_len hp
        show AWp _ _ _ _ (mk 116 [(5, .one (.c (.sl 1 ((wordsI p).map eStr)))), (105, .one (.c (.sl 1 ((wordsI p).map eStr)))), (106, iV (((((wordsI p).map eStr).length : Nat) : Int))), (107, iV (((k : Nat) : Int)))] [])
        refine a_seq ?_
        refine a_run [5, 105, 106, 107, 108] tyOK (st1 := mk 116 [(5, .one (.c (.sl 1 ((wordsI p).map eStr)))), (105, .one (.c (.sl 1 ((wordsI p).map eStr)))), (106, iV (((((wordsI p).map eStr).length : Nat) : Int))), (107, iV (((k : Nat) : Int))), (108, bV (decide ((((k : Nat) : Int)) < (((((wordsI p).map eStr).length : Nat) : Int)))))] []) (by as_aux_lemma => kernel_rfl) ?_
        refine a_seq ?_
        refine a_cond (b := decide ((((k : Nat) : Int)) < (((((wordsI p).map eStr).length : Nat) : Int)))) (by as_aux_lemma => kernel_rfl) (fun h15 => ?_) (fun h15 => ?_)
        · have g15 := h15
          try simp only [decide_eq_true_eq, decide_eq_false_iff_not, List.length_map] at g15
          refine a_skip ?_
          refine a_seq ?_
          refine a_block ?_
          refine a_seq ?_
          refine a_ops [0, 1, 2] (by as_aux_lemma => kernel_rfl) ?_
          have p2 : 0 ≤ (((k : Nat) : Int)) ∧ (((k : Nat) : Int)).toNat < (wordsI p).length := by first | omega | (rw [mv_wrap (by omega) (by omega)]; omega)
          obtain ⟨x2, q2⟩ : ∃ x, (wordsI p)[(((k : Nat) : Int)).toNat]? = some x := ⟨_, List.getElem?_eq_getElem p2.2⟩
          have r2 := q2
          try simp only [Int.toNat_natCast] at r2
          refine ao_index (d := 109) (size := 1) (n := ((k : Nat) : Int)) (rows := (wordsI p).map eStr) (st1 := mk 116 [(5, .one (.c (.sl 1 ((wordsI p).map eStr)))), (105, .one (.c (.sl 1 ((wordsI p).map eStr)))), (106, iV (((((wordsI p).map eStr).length : Nat) : Int))), (107, iV (((k : Nat) : Int))), (109, .one (.fp [sC x2] 0))] []) (eStr x2) [5, 105, 106, 107, 109] tyOK (by as_aux_lemma => kernel_rfl) p2.1 (by rw [List.getElem?_map, q2]; rfl) (by as_aux_lemma => kernel_rfl) (by as_aux_lemma => kernel_rfl) ?_
          refine ao_some [1, 2] [] [5, 9, 105, 106, 107] tyOK (st1 := mk 116 [(5, .one (.c (.sl 1 ((wordsI p).map eStr)))), (9, sV x2), (105, .one (.c (.sl 1 ((wordsI p).map eStr)))), (106, iV (((((wordsI p).map eStr).length : Nat) : Int))), (107, iV (((k : Nat) : Int)))] []) (by as_aux_lemma => kernel_rfl) ?_
          refine ao_nil ?_
          refine a_seq ?_
          refine a_run [5, 105, 106, 107, 112] tyOK (st1 := mk 116 [(5, .one (.c (.sl 1 ((wordsI p).map eStr)))), (105, .one (.c (.sl 1 ((wordsI p).map eStr)))), (106, iV (((((wordsI p).map eStr).length : Nat) : Int))), (107, iV (((k : Nat) : Int))), (112, bV ((x2.toList == ((⟨#[]⟩ : ByteArray)).toList)))] []) (by as_aux_lemma => kernel_rfl) ?_
          refine a_cond (b := (x2.toList == ((⟨#[]⟩ : ByteArray)).toList)) (by as_aux_lemma => kernel_rfl) (fun h16 => ?_) (fun h16 => ?_)
          · have g16 := h16
            try simp only [beq_iff_eq, beq_eq_false_iff_ne] at g16
            refine a_seq ?_
            refine a_run [2] tyOK (st1 := mk 116 [(2, sV ((⟨#[]⟩ : ByteArray)))] []) (by as_aux_lemma => kernel_rfl) ?_
            refine a_ret ?_
            have e : stepI p = (⟨#[]⟩ : ByteArray) := by
                have hz : noEmpty (wordsI p) = false := by rw [← hN, drop_of_get r2, noEmpty, List.all_cons, h16]; rfl
                rw [stepI, show c1I p = false from h4, cond_false, show c2I p = false from h10, cond_false, hz, cond_false]
            exact end_eq (res' := sV ((⟨#[]⟩ : ByteArray))) (by as_aux_lemma => kernel_rfl) (by rw [e] <;> rfl)
          · have g16 := h16
            try simp only [beq_iff_eq, beq_eq_false_iff_ne] at g16
            refine a_skip ?_
            refine a_run [5, 105, 106, 107] tyOK (st1 := mk 116 [(5, .one (.c (.sl 1 ((wordsI p).map eStr)))), (105, .one (.c (.sl 1 ((wordsI p).map eStr)))), (106, iV (((((wordsI p).map eStr).length : Nat) : Int))), (107, iV (IntKind.wrap .i64 ((((k : Nat) : Int)) + 1)))] []) (by as_aux_lemma => kernel_rfl) ?_
            refine ⟨⟨(k + 1), ?_⟩, ?_, ?_⟩
            · exact ⟨by omega, by rw [← hN, drop_of_get r2, noEmpty, noEmpty, List.all_cons, h16]; simp⟩
            · exact (show _ = mk 116 [(5, .one (.c (.sl 1 ((wordsI p).map eStr)))), (105, .one (.c (.sl 1 ((wordsI p).map eStr)))), (106, iV (((((wordsI p).map eStr).length : Nat) : Int))), (107, iV (IntKind.wrap .i64 ((((k : Nat) : Int)) + 1)))] [] by kernel_rfl).trans (by rw [mv_wrap (n := (k : Int) + 1) (by omega) (by omega)]; rfl)
            · dsimp only; omega
        · have g15 := h15
          try simp only [decide_eq_true_eq, decide_eq_false_iff_not, List.length_map] at g15
          refine a_exit ?_
          refine a_seq ?_
          refine a_ops [0, 1, 2] (by as_aux_lemma => kernel_rfl) ?_
          refine ao_some [0] [1, 2] [114] tyOK (st1 := mk 116 [(114, .one (.c (.sl 1 ((wordsI p).map eStr))))] []) (by as_aux_lemma => kernel_rfl) ?_
          refine ao_enter (f := 21) (d := 115) (A := [.one (.c (.sl 1 ((wordsI p).map eStr))), sV ((⟨#[32]⟩ : ByteArray))]) (st1 := mk 116 [(115, sV (joinB (wordsI p) ((⟨#[32]⟩ : ByteArray))))] []) [115] (okJoin (wordsI p) ((⟨#[32]⟩ : ByteArray)) (by have := wordsI_len hp; omega) (joinI_size hp)) Try.call21 (by as_aux_lemma => kernel_rfl) (by as_aux_lemma => kernel_rfl) (by as_aux_lemma => kernel_rfl) ?_
          refine ao_some [2] [] [2] tyOK (st1 := mk 116 [(2, sV (joinB (wordsI p) ((⟨#[32]⟩ : ByteArray))))] []) (by as_aux_lemma => kernel_rfl) ?_
          refine ao_nil ?_
          refine a_ret ?_
          have e : stepI p = joinB (wordsI p) ((⟨#[32]⟩ : ByteArray)) := by
              have hz : noEmpty (wordsI p) = true := by rw [← hN, List.drop_eq_nil_of_le (by omega)]; rfl
              rw [stepI, show c1I p = false from h4, cond_false, show c2I p = false from h10, cond_false, hz, cond_true]
          exact end_eq (res' := sV (joinB (wordsI p) ((⟨#[32]⟩ : ByteArray)))) (by as_aux_lemma => kernel_rfl) (by rw [e] <;> rfl)



end Go.Proofs.Ytabgoibmnjikkaa
