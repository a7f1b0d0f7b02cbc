/- What functions of the given program compute, each proved once, for the law that is proved in YtagoajkiccgmjaaLocks: whatever their arguments, under the conditions that each theorem names. -/
import Derived.Test.YtagoajkiccgmjaaLocksPartC
set_option linter.unusedVariables false
set_option linter.unusedSimpArgs false
namespace Go.Proofs.Ytagoajkiccgmjaa
open Go.Mv Go.RowKit

theorem bytesLess_total : ∀ (x y : List UInt8), Op.bytesLess x y = !(Op.bytesLess y x || y == x)
  | [], [] => rfl
  | [], _ :: _ => by simp [Op.bytesLess]
  | _ :: _, [] => by simp [Op.bytesLess]
  | a :: x, b :: y => by
    have ih := bytesLess_total x y
    simp only [Op.bytesLess, List.cons_beq_cons]
    rw [ih]
    by_cases h : a = b
    · subst h
      simp
    · have h1 : (a == b) = false := by simp [h]
      have h2 : (b == a) = false := beq_eq_false_iff_ne.2 (Ne.symm h)
      rw [h1, h2]
      by_cases h3 : a < b
      · have h4 : ¬ b < a := fun h4 => absurd (UInt8.lt_trans h3 h4) (UInt8.lt_irrefl _)
        simp [h3, h4]
      · have h4 : b < a := by
          rcases UInt8.lt_or_lt_of_ne h with h5 | h5
          · exact absurd h5 h3
          · exact h5
        simp [h3, h4]
theorem rangeOk_eq (r : Range) : i_RangeOk r = s_RangeOk r := by
  unfold i_RangeOk s_RangeOk
  rw [bytesLess_total r.lo.toList r.hi.toList]
  by_cases h1 : (r.lo.size : Int) ≤ 17
  · have h2 : ¬ (r.lo.size : Int) > 17 := by omega
    by_cases h3 : (r.hi.size : Int) ≤ 17
    · have h4 : ¬ (r.hi.size : Int) > 17 := by omega
      simp [h1, h2, h3, h4]
    · have h4 : (r.hi.size : Int) > 17 := by omega
      simp [h1, h2, h3, h4]
  · have h2 : (r.lo.size : Int) > 17 := by omega
    simp [h1, h2]
theorem txOk_eq (x : Tx) : i_TxOk x = s_TxOk x := by
  unfold i_TxOk s_TxOk i_within
  cases decide (x.c ≥ 0) <;> cases decide (x.c ≤ 7) <;> cases decide (x.e ≥ 1) <;> cases decide (x.e ≤ 999) <;> rfl
theorem lockOk_eq (x : Lock) : i_lockOk x = s_l07LockOk x := by unfold i_lockOk s_l07LockOk; rw [txOk_eq, rangeOk_eq]
theorem rangeBoth_eq (p q : Range) : i_RangeBoth p q = s_RangeBoth p q := by
  unfold i_RangeBoth s_RangeBoth maxS
  simp only [rangeOk_eq]
  rw [bytesLess_total p.lo.toList q.lo.toList]
  cases (bif !s_RangeOk p then true else !s_RangeOk q) with
  | true => rfl
  | false =>
    simp only [cond_false]
    cases (!(Op.bytesLess q.lo.toList p.lo.toList || q.lo.toList == p.lo.toList)) <;> rfl
theorem rangeBoth_some (p q : Range) : ∃ r, s_RangeBoth p q = some r := by
  unfold s_RangeBoth
  cases (bif !s_RangeOk p then true else !s_RangeOk q) with
  | true => exact ⟨_, rfl⟩
  | false =>
    simp only [cond_false]
    cases (!(Op.bytesLess q.lo.toList p.lo.toList || q.lo.toList == p.lo.toList)) <;> simp only [cond_true, cond_false, bnd_some] <;>
    cases (bif p.hi.toList == (⟨#[]⟩ : ByteArray).toList then true else bif !(q.hi.toList == (⟨#[]⟩ : ByteArray).toList) then Op.bytesLess q.hi.toList p.hi.toList else false) <;> simp only [cond_true, cond_false, bnd_some] <;>
    exact ⟨_, Bool.apply_cond some .. |>.symm⟩
noncomputable def sameTx (a b : Tx) : Bool := (a.c == b.c) && ((a.e == b.e) && ((a.n == b.n) && true))
noncomputable def cl (a b : Lock) : Bool := (s_l07Clash a b).getD false
theorem s_clash_eq (a b : Lock) : s_l07Clash a b = some (cl a b) := by
  obtain ⟨r, hr⟩ := rangeBoth_some a.range b.range
  unfold cl s_l07Clash
  rw [hr]
  rfl
theorem i_clash_eq (a b : Lock) : i_clash a b = some (cl a b) := by
  rw [← s_clash_eq]
  obtain ⟨r, hr⟩ := rangeBoth_some a.range b.range
  unfold i_clash s_l07Clash
  rw [rangeBoth_eq, hr]
  simp only [bnd_some]
  cases ((a.tx.c == b.tx.c) && ((a.tx.e == b.tx.e) && ((a.tx.n == b.tx.n) && true))) <;> cases r.2 <;> cases a.ex <;> cases b.ex <;> rfl

noncomputable def outU {τ : Type} : Option τ → Unit ⊕ τ
  | some t => .inr t
  | none => .inl ()

theorem s_any (xs : List Lock) (x : Lock) (hn : xs.length < 9223372036854775807) : s_l07Any xs x = some (xs.any (cl x)) := by
  have := loop_first xs (fun _ y => if cl x y then some true else none) (Bs_l07Any_1 xs x) outU hn (fun k y hy => by
    have hlt := (List.getElem?_eq_some_iff.1 hy).1
    unfold Bs_l07Any_1
    rw [List.length_map, decide_eq_true (by omega : (k : Int) < (xs.length : Int)), cond_true, getI_at hy, bnd_some, s_clash_eq, bnd_some]
    cases cl x y <;> rfl) (by unfold Bs_l07Any_1; rw [List.length_map, decide_eq_false (by omega), cond_false]; rfl)
  unfold s_l07Any
  rw [this, firstL_any]
  cases xs.any (cl x) <;> rfl
theorem i_any (xs : List Lock) (x : Lock) (hn : xs.length < 9223372036854775807) : sl_ContainsFunc_Lock_i_isFree_c1 xs x = some (xs.any (cl x)) := by
  have := loop_first xs (fun k y => if cl x y then some (k : Int) else none) (Bsl_IndexFunc_Lock_i_isFree_c1_1 xs x) outU hn (fun k y hy => by
    have hlt := (List.getElem?_eq_some_iff.1 hy).1
    unfold Bsl_IndexFunc_Lock_i_isFree_c1_1 i_isFree_c1
    rw [List.length_map, decide_eq_true (by omega : (k : Int) < (xs.length : Int)), cond_true, getI_at hy, bnd_some, i_clash_eq, bnd_some, bnd_some]
    cases cl x y <;> rfl) (by unfold Bsl_IndexFunc_Lock_i_isFree_c1_1; rw [List.length_map, decide_eq_false (by omega), cond_false]; rfl)
  unfold sl_ContainsFunc_Lock_i_isFree_c1 sl_IndexFunc_Lock_i_isFree_c1
  rw [this]
  have key : ∀ (ys : List Lock) (k : Nat), (firstL (fun k y => if cl x y then some (k : Int) else none) ys k = none ∧ ys.any (cl x) = false) ∨ ∃ j : Nat, firstL (fun k y => if cl x y then some (k : Int) else none) ys k = some (j : Int) ∧ ys.any (cl x) = true := by
    intro ys
    induction ys with
    | nil => intro k; exact .inl ⟨rfl, rfl⟩
    | cons y ys ih =>
      intro k
      simp only [firstL, List.any_cons]
      cases h : cl x y with
      | true => exact .inr ⟨k, by simp, by simp⟩
      | false => simpa using ih (k + 1)
  rcases key xs 0 with ⟨h1, h2⟩ | ⟨j, h1, h2⟩
  · rw [h1, h2]; rfl
  · rw [h1, h2]
    simp [outU]
theorem i_free1 (x : Lock) (l : List Lock) (hn : l.length < 9223372036854775807) : i_isFree x [l] = some (!(l.any (cl x))) := by
  unfold i_isFree
  have h1 : Bi_isFree_1 x [l] 0 = if l.any (cl x) then some (.inr (.inr false)) else some (.inl 1) := by
    unfold Bi_isFree_1
    rw [decide_eq_true (by simp), cond_true, show getI [l] 0 = some l from rfl, bnd_some, i_any l x hn, bnd_some]
    cases l.any (cl x) <;> rfl
  have h2 : Bi_isFree_1 x [l] 1 = some (.inr (.inl ())) := by unfold Bi_isFree_1; rw [decide_eq_false (by simp), cond_false]
  rw [loopT_eq, h1]
  cases l.any (cl x) with
  | true => rfl
  | false => simp only [Bool.false_eq_true, if_false]; rw [loopT_eq, h2]; rfl
theorem i_free2 (x : Lock) (l m : List Lock) (hn : l.length < 9223372036854775807) (hm : m.length < 9223372036854775807) : i_isFree x [l, m] = some (!(l.any (cl x) || m.any (cl x))) := by
  unfold i_isFree
  have h1 : Bi_isFree_1 x [l, m] 0 = if l.any (cl x) then some (.inr (.inr false)) else some (.inl 1) := by
    unfold Bi_isFree_1
    rw [decide_eq_true (by simp), cond_true, show getI [l, m] 0 = some l from rfl, bnd_some, i_any l x hn, bnd_some]
    cases l.any (cl x) <;> rfl
  have h2 : Bi_isFree_1 x [l, m] 1 = if m.any (cl x) then some (.inr (.inr false)) else some (.inl 2) := by
    unfold Bi_isFree_1
    rw [decide_eq_true (by simp), cond_true, show getI [l, m] 1 = some m from rfl, bnd_some, i_any m x hm, bnd_some]
    cases m.any (cl x) <;> rfl
  have h3 : Bi_isFree_1 x [l, m] 2 = some (.inr (.inl ())) := by unfold Bi_isFree_1; rw [decide_eq_false (by simp), cond_false]
  rw [loopT_eq, h1]
  cases l.any (cl x) with
  | true => rfl
  | false =>
    simp only [Bool.false_eq_true, if_false]
    rw [loopT_eq, h2]
    cases m.any (cl x) with
    | true => rfl
    | false => simp only [Bool.false_eq_true, if_false]; rw [loopT_eq, h3]; rfl
theorem s_waits (l : Locks) (x : Tx) (hn : l.wait.length < 9223372036854775807) : s_l07Waits l x = some (l.wait.any fun y => sameTx y.tx x) := by
  have := loop_first l.wait (fun _ y => if sameTx y.tx x then some true else none) (Bs_l07Waits_1 l x) outU hn (fun k y hy => by
    have hlt := (List.getElem?_eq_some_iff.1 hy).1
    unfold Bs_l07Waits_1
    rw [List.length_map, decide_eq_true (by omega : (k : Int) < (l.wait.length : Int)), cond_true, getI_at hy, bnd_some]
    show (bif sameTx y.tx x then _ else _) = _
    cases sameTx y.tx x <;> rfl) (by unfold Bs_l07Waits_1; rw [List.length_map, decide_eq_false (by omega), cond_false]; rfl)
  unfold s_l07Waits
  rw [this, firstL_any]
  cases l.wait.any fun y => sameTx y.tx x <;> rfl
theorem i_waits (l : Locks) (x : Tx) (hn : l.wait.length < 9223372036854775807) : i_Locks_waits l x = some (l.wait.any fun y => sameTx y.tx x) := by
  have := loop_first l.wait (fun k y => if sameTx y.tx x then some (k : Int) else none) (Bsl_IndexFunc_Lock_i_Locks_waits_c1_1 l.wait x) outU hn (fun k y hy => by
    have hlt := (List.getElem?_eq_some_iff.1 hy).1
    unfold Bsl_IndexFunc_Lock_i_Locks_waits_c1_1 i_Locks_waits_c1
    rw [List.length_map, decide_eq_true (by omega : (k : Int) < (l.wait.length : Int)), cond_true, getI_at hy, bnd_some]
    show (bif sameTx y.tx x then _ else _) = _
    cases sameTx y.tx x <;> rfl) (by unfold Bsl_IndexFunc_Lock_i_Locks_waits_c1_1; rw [List.length_map, decide_eq_false (by omega), cond_false]; rfl)
  unfold i_Locks_waits sl_ContainsFunc_Lock_i_Locks_waits_c1 sl_IndexFunc_Lock_i_Locks_waits_c1
  rw [this]
  have key : ∀ (ys : List Lock) (k : Nat), (firstL (fun k y => if sameTx y.tx x then some (k : Int) else none) ys k = none ∧ (ys.any fun y => sameTx y.tx x) = false) ∨ ∃ j : Nat, firstL (fun k y => if sameTx y.tx x then some (k : Int) else none) ys k = some (j : Int) ∧ (ys.any fun y => sameTx y.tx x) = true := by
    intro ys
    induction ys with
    | nil => intro k; exact .inl ⟨rfl, rfl⟩
    | cons y ys ih =>
      intro k
      simp only [firstL, List.any_cons]
      cases h : sameTx y.tx x with
      | true => exact .inr ⟨k, by simp, by simp⟩
      | false => simpa using ih (k + 1)
  rcases key l.wait 0 with ⟨h1, h2⟩ | ⟨j, h1, h2⟩
  · rw [h1, h2]; rfl
  · rw [h1, h2]
    simp [outU]

/-! ### LocksOk, LockAsk -/
noncomputable def q1 (p : Locks) (k : Nat) (x : Lock) : Option Bool := if (bif !(s_l07LockOk x) then true else (p.held.take k).any (cl x)) then some false else none
noncomputable def q2 (p : Locks) (k : Nat) (x : Lock) : Option Bool :=
  if (bif !(s_l07LockOk x) then true else bif (p.wait.take k).any (fun y => sameTx y.tx x.tx) then true else bif (!(p.held.any (cl x))) then !((p.wait.take k).any (cl x)) else false) then some false else none
noncomputable def okB (p : Locks) : Bool :=
  bif decide ((p.held.length : Int) + (p.wait.length : Int) > 60) then false else match firstL (q1 p) p.held 0 with
    | some t => t
    | none => match firstL (q2 p) p.wait 0 with
      | some t => t
      | none => true
noncomputable def Small (p : Locks) : Prop := p.held.length * 64 ≤ 140737488355328 ∧ p.wait.length * 64 ≤ 140737488355328
theorem tk_lt {xs : List Lock} {k : Nat} (h : xs.length * 64 ≤ 140737488355328) : (xs.take k).length < 9223372036854775807 := by simp only [List.length_take]; omega

theorem s_LocksOk_eq (p : Locks) (hp : Small p) : s_LocksOk p = some (okB p) := by
  obtain ⟨hh, hw⟩ := hp
  have e1 := loop_first p.held (q1 p) (Bs_LocksOk_1 p) outU (by omega) (fun k x hx => by
    have hlt := (List.getElem?_eq_some_iff.1 hx).1
    unfold Bs_LocksOk_1 q1
    rw [List.length_map, decide_eq_true (by omega : (k : Int) < (p.held.length : Int)), cond_true, getI_at hx, bnd_some]
    cases s_l07LockOk x with
    | false => rfl
    | true =>
      simp only [Bool.not_true, cond_false]
      rw [chk_i (by omega), Int.toNat_natCast, s_any _ _ (tk_lt hh), bnd_some, bnd_some]
      cases (p.held.take k).any (cl x) <;> rfl) (by unfold Bs_LocksOk_1; rw [List.length_map, decide_eq_false (by omega), cond_false]; rfl)
  have e2 := loop_first p.wait (q2 p) (Bs_LocksOk_2 p) outU (by omega) (fun k x hx => by
    have hlt := (List.getElem?_eq_some_iff.1 hx).1
    unfold Bs_LocksOk_2 q2
    rw [List.length_map, decide_eq_true (by omega : (k : Int) < (p.wait.length : Int)), cond_true, getI_at hx, bnd_some]
    cases s_l07LockOk x with
    | false => rfl
    | true =>
      simp only [Bool.not_true, cond_false]
      rw [chk_i (by omega), Int.toNat_natCast, s_waits _ _ (tk_lt hw), bnd_some]
      cases (p.wait.take k).any (fun y => sameTx y.tx x.tx) with
      | true => rfl
      | false =>
        simp only [cond_false]
        rw [s_any _ _ (by omega), bnd_some]
        cases p.held.any (cl x) with
        | true => rfl
        | false =>
          simp only [Bool.not_false, cond_true]
          rw [chk_i (by omega), s_any _ _ (tk_lt hw), bnd_some, bnd_some]
          cases (p.wait.take k).any (cl x) <;> rfl) (by unfold Bs_LocksOk_2; rw [List.length_map, decide_eq_false (by omega), cond_false]; rfl)
  unfold s_LocksOk okB
  rw [List.length_map, List.length_map, wrapL _ (by omega) (by omega), e1, e2]
  cases decide ((p.held.length : Int) + (p.wait.length : Int) > 60) with
  | true => rfl
  | false =>
    simp only [cond_false]
    cases firstL (q1 p) p.held 0 with
    | some t => rfl
    | none =>
      cases firstL (q2 p) p.wait 0 with
      | some t => rfl
      | none => rfl
theorem i_LocksOk_eq (p : Locks) (hp : Small p) : i_LocksOk p = some (okB p) := by
  obtain ⟨hh, hw⟩ := hp
  have e1 := loop_first p.held (q1 p) (Bi_LocksOk_1 p) outU (by omega) (fun k x hx => by
    have hlt := (List.getElem?_eq_some_iff.1 hx).1
    unfold Bi_LocksOk_1 q1
    rw [List.length_map, decide_eq_true (by omega : (k : Int) < (p.held.length : Int)), cond_true, getI_at hx, bnd_some, lockOk_eq]
    cases s_l07LockOk x with
    | false => rfl
    | true =>
      simp only [Bool.not_true, cond_false]
      rw [chk_i (by omega), Int.toNat_natCast, i_free1 _ _ (tk_lt hh), bnd_some, bnd_some]
      cases (p.held.take k).any (cl x) <;> rfl) (by unfold Bi_LocksOk_1; rw [List.length_map, decide_eq_false (by omega), cond_false]; rfl)
  have e2 := loop_first p.wait (q2 p) (Bi_LocksOk_2 p) outU (by omega) (fun k x hx => by
    have hlt := (List.getElem?_eq_some_iff.1 hx).1
    unfold Bi_LocksOk_2 q2
    rw [List.length_map, decide_eq_true (by omega : (k : Int) < (p.wait.length : Int)), cond_true, getI_at hx, bnd_some, chk_i (by omega), lockOk_eq]
    cases s_l07LockOk x with
    | false => rfl
    | true =>
      simp only [Bool.not_true, cond_false]
      rw [Int.toNat_natCast, i_waits _ _ (tk_lt hw), bnd_some]
      cases (p.wait.take k).any (fun y => sameTx y.tx x.tx) with
      | true => rfl
      | false =>
        simp only [cond_false]
        rw [chk_i (by omega), i_free2 _ _ _ (by omega) (tk_lt hw), bnd_some, bnd_some]
        cases p.held.any (cl x) <;> cases (p.wait.take k).any (cl x) <;> rfl) (by unfold Bi_LocksOk_2; rw [List.length_map, decide_eq_false (by omega), cond_false]; rfl)
  unfold i_LocksOk okB
  rw [List.length_map, List.length_map, wrapL _ (by omega) (by omega), e1, e2]
  cases decide ((p.held.length : Int) + (p.wait.length : Int) > 60) with
  | true => rfl
  | false =>
    simp only [cond_false]
    cases firstL (q1 p) p.held 0 with
    | some t => rfl
    | none =>
      cases firstL (q2 p) p.wait 0 with
      | some t => rfl
      | none => rfl
theorem okB_len {p : Locks} (h : okB p = true) : p.held.length + p.wait.length ≤ 60 := by
  unfold okB at h
  cases hd : decide ((p.held.length : Int) + (p.wait.length : Int) > 60) with
  | true => rw [hd] at h; cases h
  | false => have := of_decide_eq_false hd; omega
noncomputable def askR (p : Locks) (x : Lock) : Locks × Int :=
  bif (!okB p) || (!s_l07LockOk x) || p.wait.any (fun y => sameTx y.tx x.tx) then (⟨[], []⟩, 1)
  else bif decide (p.held.length + p.wait.length = 60) then (⟨[], []⟩, 2)
  else bif p.held.any (cl x) || p.wait.any (cl x) then (⟨p.held, p.wait ++ [x]⟩, 3) else (⟨p.held ++ [x], p.wait⟩, 0)
theorem s_LockAsk_eq (p : Locks) (x : Lock) (hp : Small p) : s_LockAsk p x = some (askR p x) := by
  have hh := hp.1
  have hw := hp.2
  unfold s_LockAsk askR
  rw [s_LocksOk_eq p hp, bnd_some]
  cases hok : okB p with
  | false => rfl
  | true =>
    have hl := okB_len hok
    cases s_l07LockOk x with
    | false => rfl
    | true =>
      simp only [Bool.not_true, cond_false, Bool.false_or]
      rw [s_waits _ _ (by omega), bnd_some, bnd_some]
      cases p.wait.any (fun y => sameTx y.tx x.tx) with
      | true => rfl
      | false =>
        simp only [cond_false]
        rw [List.length_map, List.length_map, wrapL _ (by omega) (by omega)]
        by_cases h60 : p.held.length + p.wait.length = 60
        · rw [decide_eq_true (by omega), decide_eq_true h60]; rfl
        · rw [decide_eq_false (by omega), decide_eq_false h60]
          simp only [cond_false]
          unfold s_l07Copy
          rw [chk_i (by simp; omega), chk_i (by simp; omega), bnd_some, s_any _ _ (by omega), bnd_some]
          cases p.held.any (cl x) with
          | true => simp only [cond_true, bnd_some, Bool.true_or]; rw [chk_i (by simp; omega)]
          | false =>
            simp only [cond_false, Bool.false_or]
            rw [s_any _ _ (by omega), bnd_some, bnd_some]
            cases p.wait.any (cl x) <;> simp only [cond_true, cond_false] <;> rw [chk_i (by simp; omega)]
theorem i_LockAsk_eq (p : Locks) (x : Lock) (hp : Small p) : i_LockAsk p x = some (askR p x) := by
  have hh := hp.1
  have hw := hp.2
  unfold i_LockAsk askR
  rw [i_LocksOk_eq p hp, bnd_some, lockOk_eq]
  cases hok : okB p with
  | false => rfl
  | true =>
    have hl := okB_len hok
    cases s_l07LockOk x with
    | false => rfl
    | true =>
      simp only [Bool.not_true, cond_false, Bool.false_or, bnd_some]
      unfold i_copyLocks i_Locks_ask
      rw [chk_i (by simp; omega), chk_i (by simp; omega), bnd_some, i_waits _ _ (by omega), bnd_some]
      cases p.wait.any (fun y => sameTx y.tx x.tx) with
      | true => rfl
      | false =>
        simp only [cond_false]
        rw [List.length_map, List.length_map, wrapL _ (by omega) (by omega)]
        by_cases h60 : p.held.length + p.wait.length = 60
        · rw [show (((p.held.length : Int) + (p.wait.length : Int)) == 60) = true by simp; omega, decide_eq_true h60]; rfl
        · rw [show (((p.held.length : Int) + (p.wait.length : Int)) == 60) = false by simp; omega, decide_eq_false h60]
          simp only [cond_false]
          rw [i_free2 _ _ _ (by omega) (by omega), bnd_some]
          cases p.held.any (cl x) <;> cases p.wait.any (cl x) <;> simp only [Bool.or_true, Bool.or_false, Bool.not_true, Bool.not_false, cond_true, cond_false] <;> rw [chk_i (by simp; omega)] <;> rfl
end Go.Proofs.Ytagoajkiccgmjaa

namespace Go.Proofs.Ytagoajkiccgmjaa
open Go.Mv Go.RowKit

/-! ### Lists gone over -/
theorem loop_fold {α σ τ A : Type} (xs : List α) (f : σ → Option (σ ⊕ τ)) (st : Nat → A → σ) (out : A → τ) (step : A → α → A) (I : Nat → A → Prop)
    (hs : ∀ k x a, xs[k]? = some x → I k a → f (st k a) = some (.inl (st (k + 1) (step a x))) ∧ I (k + 1) (step a x))
    (he : ∀ a, I xs.length a → f (st xs.length a) = some (.inr (out a))) (a : A) (h0 : I 0 a) :
    loopT f (st 0 a) = some (out (xs.foldl step a)) ∧ I xs.length (xs.foldl step a) := by
  have key : ∀ n k a, n = xs.length - k → k ≤ xs.length → I k a → loopT f (st k a) = some (out ((xs.drop k).foldl step a)) ∧ I xs.length ((xs.drop k).foldl step a) := by
    intro n
    induction n with
    | zero =>
      intro k a hn hk hI
      have e : k = xs.length := by omega
      subst e
      rw [List.drop_length]
      exact ⟨loopT_done (he a hI), hI⟩
    | succ n ih =>
      intro k a hn hk hI
      have hlt : k < xs.length := by omega
      obtain ⟨h1, h2⟩ := hs k xs[k] a (List.getElem?_eq_getElem hlt) hI
      rw [loopT_next h1, List.drop_eq_getElem_cons hlt, List.foldl_cons]
      exact ih (k + 1) _ (by omega) hlt h2
  simpa using key _ 0 a rfl (Nat.zero_le _) h0
theorem firstL_none {α τ : Type} (q : Nat → α → Option τ) : ∀ (xs : List α) (b : Nat), firstL q xs b = none ↔ ∀ k x, xs[k]? = some x → q (b + k) x = none
  | [], b => by simp [firstL]
  | y :: ys, b => by
    have ih := firstL_none q ys (b + 1)
    simp only [firstL]
    constructor
    · intro h k x hk
      cases hq : q b y with
      | some t => rw [hq] at h; cases h
      | none =>
        rw [hq] at h
        cases k with
        | zero => simp at hk; subst hk; simpa using hq
        | succ k =>
          have := ih.1 h k x (by simpa using hk)
          rwa [show b + 1 + k = b + (k + 1) by omega] at this
    · intro h
      have h0 := h 0 y rfl
      simp only [Nat.add_zero] at h0
      rw [h0]
      exact ih.2 fun k x hk => by
        have := h (k + 1) x (by simpa using hk)
        rwa [show b + (k + 1) = b + 1 + k by omega] at this
theorem firstL_val {α τ : Type} (q : Nat → α → Option τ) (t : τ) (hq : ∀ k x u, q k x = some u → u = t) : ∀ (xs : List α) (b : Nat), firstL q xs b = none ∨ firstL q xs b = some t
  | [], b => .inl rfl
  | y :: ys, b => by
    simp only [firstL]
    cases h : q b y with
    | some u => exact .inr (by rw [hq _ _ _ h])
    | none => exact firstL_val q t hq ys (b + 1)

/-! ### What right locks are -/
def HOk (h : List Lock) : Prop := (∀ x ∈ h, s_l07LockOk x = true) ∧ h.Pairwise (fun a b => cl b a = false)
def WOk (h w : List Lock) : Prop := (∀ x ∈ w, s_l07LockOk x = true) ∧ w.Pairwise (fun a b => sameTx a.tx b.tx = false) ∧ ∀ k x, w[k]? = some x → (h.any (cl x) || (w.take k).any (cl x)) = true
theorem pre_pairwise (R : Lock → Lock → Bool) (h : List Lock) : (∀ k x, h[k]? = some x → (h.take k).any (fun y => R y x) = false) ↔ h.Pairwise (fun a b => R a b = false) := by
  rw [List.pairwise_iff_getElem]
  constructor
  · intro H i j hi hj hij
    have := H j h[j] (List.getElem?_eq_getElem hj)
    rw [List.any_eq_false] at this
    have := this h[i] (by rw [List.mem_take_iff_getElem]; exact ⟨i, by omega, rfl⟩)
    simpa using this
  · intro H k x hk
    obtain ⟨hlt, rfl⟩ := List.getElem?_eq_some_iff.1 hk
    rw [List.any_eq_false]
    intro y hy
    obtain ⟨i, hi, rfl⟩ := List.mem_take_iff_getElem.1 hy
    simpa using H i k (by omega) hlt (by omega)
theorem okB_iff (p : Locks) : okB p = true ↔ p.held.length + p.wait.length ≤ 60 ∧ HOk p.held ∧ WOk p.held p.wait := by
  have v1 := firstL_val (q1 p) false (fun k x u h => by unfold q1 at h; split at h <;> simp_all) p.held 0
  have v2 := firstL_val (q2 p) false (fun k x u h => by unfold q2 at h; split at h <;> simp_all) p.wait 0
  have n1 : firstL (q1 p) p.held 0 = none ↔ HOk p.held := by
    rw [firstL_none]
    unfold HOk
    rw [← pre_pairwise (fun a b => cl b a)]
    constructor
    · intro H
      refine ⟨fun x hx => ?_, fun k x hk => ?_⟩
      · obtain ⟨k, hlt, rfl⟩ := List.getElem_of_mem hx
        have := H k _ (List.getElem?_eq_getElem hlt)
        unfold q1 at this
        cases e : s_l07LockOk p.held[k] with
        | true => rfl
        | false => rw [e] at this; simp at this
      · have := H k x hk
        unfold q1 at this
        rw [Nat.zero_add] at this
        cases e : s_l07LockOk x with
        | false => rw [e] at this; simp at this
        | true =>
          rw [e] at this
          simp only [Bool.not_true, cond_false] at this
          cases e2 : (p.held.take k).any (cl x) with
          | true => rw [e2] at this; simp at this
          | false => rfl
    · intro ⟨H1, H2⟩ k x hk
      unfold q1
      rw [H1 x (List.mem_of_getElem? hk), Nat.zero_add]
      have := H2 k x hk
      simp only [Bool.not_true, cond_false]
      rw [if_neg (by rw [show (p.held.take k).any (cl x) = false from this]; simp)]
  have n2 : firstL (q2 p) p.wait 0 = none ↔ WOk p.held p.wait := by
    rw [firstL_none]
    unfold WOk
    rw [← pre_pairwise (fun a b => sameTx a.tx b.tx)]
    constructor
    · intro H
      have all : ∀ k x, p.wait[k]? = some x → s_l07LockOk x = true ∧ (p.wait.take k).any (fun y => sameTx y.tx x.tx) = false ∧ (p.held.any (cl x) || (p.wait.take k).any (cl x)) = true := fun k x hk => by
        have := H k x hk
        unfold q2 at this
        rw [Nat.zero_add] at this
        cases e : s_l07LockOk x <;> cases e2 : (p.wait.take k).any (fun y => sameTx y.tx x.tx) <;> cases e3 : p.held.any (cl x) <;> cases e4 : (p.wait.take k).any (cl x) <;> simp [e, e2, e3, e4] at this ⊢
      refine ⟨fun x hx => ?_, fun k x hk => (all k x hk).2.1, fun k x hk => (all k x hk).2.2⟩
      obtain ⟨k, hlt, rfl⟩ := List.getElem_of_mem hx
      exact (all k _ (List.getElem?_eq_getElem hlt)).1
    · intro ⟨H1, H2, H3⟩ k x hk
      unfold q2
      rw [H1 x (List.mem_of_getElem? hk), Nat.zero_add, H2 k x hk]
      have := H3 k x hk
      cases e3 : p.held.any (cl x) <;> cases e4 : (p.wait.take k).any (cl x) <;> simp [e3, e4] at this ⊢
  unfold okB
  constructor
  · intro h
    cases hd : decide ((p.held.length : Int) + (p.wait.length : Int) > 60) with
    | true => rw [hd] at h; cases h
    | false =>
      rw [hd] at h
      have := of_decide_eq_false hd
      simp only [cond_false] at h
      rcases v1 with e | e
      · rw [e] at h
        rcases v2 with e2 | e2
        · exact ⟨by omega, n1.1 e, n2.1 e2⟩
        · rw [e2] at h; cases h
      · rw [e] at h; cases h
  · intro ⟨h1, h2, h3⟩
    rw [decide_eq_false (by omega), n1.2 h2, n2.2 h3]
    rfl
theorem hok_snoc {h : List Lock} {x : Lock} (H : HOk h) (ho : s_l07LockOk x = true) (hc : h.any (cl x) = false) : HOk (h ++ [x]) := by
  refine ⟨fun y hy => ?_, ?_⟩
  · rcases List.mem_append.1 hy with hy | hy
    · exact H.1 y hy
    · simp at hy; subst hy; exact ho
  · rw [List.pairwise_append]
    refine ⟨H.2, by simp, fun a ha b hb => ?_⟩
    simp at hb
    subst hb
    rw [List.any_eq_false] at hc
    simpa using hc a ha
theorem wok_snoc {h w : List Lock} {x : Lock} (H : WOk h w) (ho : s_l07LockOk x = true) (hn : w.any (fun y => sameTx y.tx x.tx) = false) (hc : (h.any (cl x) || w.any (cl x)) = true) : WOk h (w ++ [x]) := by
  refine ⟨fun y hy => ?_, ?_, fun k y hk => ?_⟩
  · rcases List.mem_append.1 hy with hy | hy
    · exact H.1 y hy
    · simp at hy; subst hy; exact ho
  · rw [List.pairwise_append]
    refine ⟨H.2.1, by simp, fun a ha b hb => ?_⟩
    simp at hb
    subst hb
    rw [List.any_eq_false] at hn
    simpa using hn a ha
  · by_cases hlt : k < w.length
    · rw [List.getElem?_append_left hlt] at hk
      rw [List.take_append_of_le_length (by omega)]
      exact H.2.2 k y hk
    · rw [List.getElem?_append_right (by omega)] at hk
      have e : k = w.length := by
        rcases Nat.eq_zero_or_pos (k - w.length) with e | e
        · omega
        · rw [List.getElem?_eq_none (by simp; omega)] at hk; cases hk
      subst e
      simp at hk
      subst hk
      rw [List.take_left']
      · exact hc
      · rfl
theorem wok_mono {h h' w : List Lock} (H : WOk h w) (hs : ∀ x ∈ h, x ∈ h') : WOk h' w := by
  refine ⟨H.1, H.2.1, fun k x hk => ?_⟩
  have := H.2.2 k x hk
  rw [Bool.or_eq_true, List.any_eq_true] at this ⊢
  rcases this with ⟨y, hy, hc⟩ | h2
  · exact .inl ⟨y, hs y hy, hc⟩
  · exact .inr h2
theorem hok_filter {h : List Lock} (f : Lock → Bool) (H : HOk h) : HOk (h.filter f) := ⟨fun x hx => H.1 x ((List.mem_filter.1 hx).1), H.2.filter f⟩
end Go.Proofs.Ytagoajkiccgmjaa
namespace Go.Proofs.Ytagoajkiccgmjaa
open Go.Mv Go.RowKit

/-! ### LockFree -/
noncomputable def isTx (t : Tx) (y : Lock) : Bool := sameTx y.tx t
structure FA where
  held : List Lock
  stay : List Lock
  went : List Lock
noncomputable def fstep (a : FA) (y : Lock) : FA := bif a.held.any (cl y) || a.stay.any (cl y) then ⟨a.held, a.stay ++ [y], a.went⟩ else ⟨a.held ++ [y], a.stay, a.went ++ [y]⟩
noncomputable def freeA (p : Locks) (t : Tx) : FA := (p.wait.filter (fun y => !isTx t y)).foldl fstep ⟨p.held.filter (fun y => !isTx t y), [], []⟩
noncomputable def freeR (p : Locks) (t : Tx) : Locks × List Lock := (⟨(freeA p t).held, (freeA p t).stay⟩, (freeA p t).went)
def FLen (n k : Nat) (a : FA) : Prop := a.held.length + a.stay.length ≤ n + k ∧ a.went.length ≤ k
theorem fstep_len {n k : Nat} {a : FA} (y : Lock) (h : FLen n k a) : FLen n (k + 1) (fstep a y) := by
  obtain ⟨h1, h2⟩ := h
  unfold fstep FLen
  cases a.held.any (cl y) || a.stay.any (cl y) <;> simp <;> omega

theorem i_index (xs : List Lock) (t : Tx) (hn : xs.length < 9223372036854775807) :
    (sl_IndexFunc_Lock_i_Locks_free_c1 xs t = some (-1) ∧ xs.any (isTx t) = false) ∨ ∃ j : Nat, sl_IndexFunc_Lock_i_Locks_free_c1 xs t = some (j : Int) ∧ j < xs.length ∧ (xs.take j).any (isTx t) = false ∧ ∃ y, xs[j]? = some y ∧ isTx t y = true := by
  have := loop_first xs (fun k y => if isTx t y then some (k : Int) else none) (Bsl_IndexFunc_Lock_i_Locks_free_c1_1 xs t) outU hn (fun k y hy => by
    have hlt := (List.getElem?_eq_some_iff.1 hy).1
    unfold Bsl_IndexFunc_Lock_i_Locks_free_c1_1 i_Locks_free_c1
    rw [List.length_map, decide_eq_true (by omega : (k : Int) < (xs.length : Int)), cond_true, getI_at hy, bnd_some]
    show (bif isTx t y then _ else _) = _
    cases isTx t y <;> rfl) (by unfold Bsl_IndexFunc_Lock_i_Locks_free_c1_1; rw [List.length_map, decide_eq_false (by omega), cond_false]; rfl)
  unfold sl_IndexFunc_Lock_i_Locks_free_c1
  rw [this]
  have key : ∀ (ys zs : List Lock), xs = ys ++ zs → ys.any (isTx t) = false →
      (firstL (fun k y => if isTx t y then some (k : Int) else none) zs ys.length = none ∧ xs.any (isTx t) = false) ∨ ∃ j : Nat, firstL (fun k y => if isTx t y then some (k : Int) else none) zs ys.length = some (j : Int) ∧ j < xs.length ∧ (xs.take j).any (isTx t) = false ∧ ∃ y, xs[j]? = some y ∧ isTx t y = true := by
    intro ys zs
    induction zs generalizing ys with
    | nil => intro e h; subst e; exact .inl ⟨rfl, by simpa using h⟩
    | cons z zs ih =>
      intro e h
      simp only [firstL]
      cases hz : isTx t z with
      | true => exact .inr ⟨ys.length, by simp, by rw [e]; simp, by rw [e]; simpa using h, z, by rw [e]; simp, hz⟩
      | false =>
        have := ih (ys ++ [z]) (by rw [e]; simp) (by rw [List.any_append, h]; simp [hz])
        simpa using this
  rcases key [] xs rfl rfl with ⟨h1, h2⟩ | ⟨j, h1, h2⟩
  · rw [show firstL _ xs 0 = none from h1]; exact .inl ⟨rfl, h2⟩
  · rw [show firstL _ xs 0 = some (j : Int) from h1]; exact .inr ⟨j, rfl, h2⟩

theorem i_delete (xs : List Lock) (t : Tx) (hn : xs.length < 9223372036854775000) : sl_DeleteFunc_Lock_i_Locks_free_c1 xs t = some (xs.filter (fun y => !isTx t y)) := by
  unfold sl_DeleteFunc_Lock_i_Locks_free_c1
  rcases i_index xs t (by omega) with ⟨h1, h2⟩ | ⟨j, h1, hj, h2, y, hy, hyt⟩
  · rw [h1, bnd_some]
    have : xs.filter (fun y => !isTx t y) = xs := List.filter_eq_self.2 fun a ha => by
      rw [List.any_eq_false] at h2
      simpa using h2 a ha
    rw [this]
    rfl
  · rw [h1, bnd_some, show ((j : Int) == -1) = false by simp <;> omega, cond_false]
    have hpre : (xs.take j).filter (fun y => !isTx t y) = xs.take j := List.filter_eq_self.2 fun a ha => by
      rw [List.any_eq_false] at h2
      simpa using h2 a ha
    obtain ⟨r, hr, hq⟩ := loopT_ex (f := Bsl_DeleteFunc_Lock_i_Locks_free_c1_1 t) (fun r => r.w0_0.length = xs.length ∧ ∃ m : Nat, r.v5 = m ∧ m ≤ xs.length ∧ r.w0_0.take m = xs.filter (fun y => !isTx t y))
      (fun s => ∃ m k : Nat, s.v5 = m ∧ s.v6 = k ∧ m < k ∧ k ≤ xs.length ∧ s.w0_0.length = xs.length ∧ s.w0_0.take m = (xs.take k).filter (fun y => !isTx t y) ∧ s.w0_0.drop k = xs.drop k) (fun s => xs.length - s.v6.toNat) (fun s ⟨m, k, e5, e6, hmk, hk, hl, ht, hd⟩ => by
      obtain ⟨v5, v6, w⟩ := s
      simp only at e5 e6 hl ht hd
      subst e5 e6
      unfold Bsl_DeleteFunc_Lock_i_Locks_free_c1_1
      dsimp only
      by_cases he : k = xs.length
      · rw [decide_eq_false (by omega), cond_false]
        exact .inl ⟨_, rfl, hl, m, rfl, by omega, by rw [ht, he, List.take_length]⟩
      · have hlt : k < xs.length := by omega
        have hg : w[k]? = some xs[k] := by
          have := congrArg (·[0]?) hd
          simp only [List.getElem?_drop, Nat.add_zero] at this
          rw [this, List.getElem?_eq_getElem hlt]
        have htk : xs.take (k + 1) = xs.take k ++ [xs[k]] := by rw [List.take_add_one, List.getElem?_eq_getElem hlt]; rfl
        have hdk : w.drop (k + 1) = xs.drop (k + 1) := by
          have := congrArg (List.drop 1) hd
          simpa [List.drop_drop, Nat.add_comm] using this
        rw [decide_eq_true (by omega), cond_true, getI_at hg, bnd_some]
        have e1 : IntKind.wrap .i64 ((m : Int) + 1) = ((m + 1 : Nat) : Int) := by rw [wrapL _ (by omega) (by omega)]; rfl
        have e2 : IntKind.wrap .i64 ((k : Int) + 1) = ((k + 1 : Nat) : Int) := by rw [wrapL _ (by omega) (by omega)]; rfl
        have hm : m < w.length := by omega
        cases hb : isTx t xs[k] with
        | true =>
          rw [show i_Locks_free_c1 xs[k] t = true from hb]
          simp only [Bool.not_true, cond_false, bnd_some]
          refine .inr ⟨_, rfl, ⟨m, k + 1, rfl, e2, by omega, by omega, hl, ?_, hdk⟩, ?_⟩
          · dsimp only
            rw [ht, htk, List.filter_append]
            simp [hb]
          · dsimp only; rw [e2]; omega
        | false =>
          rw [show i_Locks_free_c1 xs[k] t = false from hb]
          simp only [Bool.not_false, cond_true]
          rw [getI_at (List.getElem?_eq_getElem hm), bnd_some, bnd_some]
          refine .inr ⟨_, rfl, ⟨m + 1, k + 1, e1, e2, by omega, by omega, by simpa using hl, ?_, ?_⟩, ?_⟩
          · dsimp only
            rw [Int.toNat_natCast, htk, List.filter_append, ← ht, List.take_add_one]
            simp [hb, hm]
            exact List.take_set_of_le (Nat.le_refl _)
          · dsimp only
            rw [Int.toNat_natCast, List.drop_set_of_lt (by omega), hdk]
          · dsimp only; rw [e2]; omega) ⟨j, IntKind.wrap .i64 ((j : Int) + 1), xs⟩ ⟨j, j + 1, rfl, by dsimp only; rw [wrapL _ (by omega) (by omega)]; rfl, by omega, by omega, rfl, by
        dsimp only
        rw [List.take_add_one, hy, List.filter_append, hpre]
        simp [hyt], rfl⟩
    rw [hr, bnd_some]
    obtain ⟨q1, m, q2, q3, q4⟩ := hq
    rw [q2, chk_i (by omega), chk_i (by omega), Int.toNat_natCast, List.take_take, Nat.min_self, q4]
end Go.Proofs.Ytagoajkiccgmjaa
namespace Go.Proofs.Ytagoajkiccgmjaa
open Go.Mv Go.RowKit

theorem i_free_eq (p : Locks) (t : Tx) (h : p.held.length + p.wait.length ≤ 1000000) : i_Locks_free p t = some (freeR p t) := by
  unfold i_Locks_free
  rw [i_delete _ _ (by omega), bnd_some, i_delete _ _ (by omega), bnd_some]
  have f1 : (p.held.filter (fun y => !isTx t y)).length ≤ p.held.length := List.length_filter_le _ _
  have f2 : (p.wait.filter (fun y => !isTx t y)).length ≤ p.wait.length := List.length_filter_le _ _
  have := (loop_fold (p.wait.filter (fun y => !isTx t y)) (Bi_Locks_free_1 (p.wait.filter (fun y => !isTx t y))) (fun (k : Nat) (a : FA) => ⟨a.went, a.stay, k, a.held⟩) (fun a => ⟨a.went, a.stay, a.held⟩) fstep
    (fun k a => k ≤ (p.wait.filter (fun y => !isTx t y)).length ∧ FLen (p.held.filter (fun y => !isTx t y)).length k a) (fun k x a hx ⟨hk, hI⟩ => by
      have hlt := (List.getElem?_eq_some_iff.1 hx).1
      refine ⟨?_, hlt, fstep_len x hI⟩
      obtain ⟨g1, g2⟩ := hI
      unfold Bi_Locks_free_1 fstep
      dsimp only
      rw [decide_eq_true (by omega), cond_true, getI_at hx, bnd_some, i_free2 _ _ _ (by omega) (by omega), bnd_some]
      have e2 : IntKind.wrap .i64 ((k : Int) + 1) = ((k + 1 : Nat) : Int) := by rw [wrapL _ (by omega) (by omega)]; rfl
      cases a.held.any (cl x) || a.stay.any (cl x) with
      | true =>
        simp only [Bool.not_true, cond_false, cond_true]
        rw [chk_i (by simp; omega), bnd_some, e2]
      | false =>
        simp only [Bool.not_false, cond_false, cond_true]
        rw [chk_i (by simp; omega), chk_i (by simp; omega), bnd_some, e2]) (fun a ⟨_, _⟩ => by
      unfold Bi_Locks_free_1
      dsimp only
      rw [decide_eq_false (by omega), cond_false]) ⟨p.held.filter (fun y => !isTx t y), [], []⟩ ⟨Nat.zero_le _, by simp [FLen]⟩).1
  rw [show (⟨[], [], 0, p.held.filter (fun y => !isTx t y)⟩ : Si_Locks_free_1) = ⟨[], [], ((0 : Nat) : Int), p.held.filter (fun y => !isTx t y)⟩ from rfl, this, bnd_some]
  rfl
noncomputable def freeQ (p : Locks) (t : Tx) : Locks × List Lock := bif okB p then freeR p t else (⟨[], []⟩, [])
theorem i_LockFree_eq (p : Locks) (t : Tx) (hp : Small p) : i_LockFree p t = some (freeQ p t) := by
  unfold i_LockFree freeQ
  rw [i_LocksOk_eq p hp, bnd_some]
  cases hok : okB p with
  | false => rfl
  | true =>
    have hl := okB_len hok
    simp only [Bool.not_true, cond_false, cond_true]
    unfold i_copyLocks
    rw [chk_i (by simp; omega), chk_i (by simp; omega), bnd_some, i_free_eq p t (by omega), bnd_some]
theorem s_LockFree_eq (p : Locks) (t : Tx) (hp : Small p) : s_LockFree p t = some (freeQ p t) := by
  unfold s_LockFree freeQ
  rw [s_LocksOk_eq p hp, bnd_some]
  cases hok : okB p with
  | false => rfl
  | true =>
    have hl := okB_len hok
    simp only [Bool.not_true, cond_false, cond_true]
    have e1 := (loop_fold p.held (Bs_LockFree_1 p t) (fun (k : Nat) (a : List Lock) => ⟨k, a⟩) (fun a => a) (fun a y => if (!isTx t y) = true then a ++ [y] else a) (fun k a => k ≤ p.held.length ∧ a.length ≤ k) (fun k x a hx ⟨hk, hI⟩ => by
      have hlt := (List.getElem?_eq_some_iff.1 hx).1
      have e2 : IntKind.wrap .i64 ((k : Int) + 1) = ((k + 1 : Nat) : Int) := by rw [wrapL _ (by omega) (by omega)]; rfl
      refine ⟨?_, hlt, by split <;> first | omega | (simp; omega)⟩
      unfold Bs_LockFree_1
      dsimp only
      rw [List.length_map, decide_eq_true (by omega), cond_true, getI_at hx, bnd_some, e2]
      show bnd (bif !(isTx t x) then _ else _) _ = _
      cases isTx t x with
      | true => rfl
      | false =>
        simp only [Bool.not_false, cond_true, if_true]
        rw [chk_i (by simp; omega), bnd_some]) (fun a ⟨_, _⟩ => by
      unfold Bs_LockFree_1
      dsimp only
      rw [List.length_map, decide_eq_false (by omega), cond_false]) [] ⟨Nat.zero_le _, Nat.zero_le _⟩).1
    have ff : ∀ (xs acc : List Lock), xs.foldl (fun a y => if (!isTx t y) = true then a ++ [y] else a) acc = acc ++ xs.filter (fun y => !isTx t y) := by
      intro xs
      induction xs with
      | nil => intro acc; simp
      | cons x xs ih =>
        intro acc
        rw [List.foldl_cons, ih]
        cases h : isTx t x <;> simp [h]
    rw [ff, List.nil_append] at e1
    rw [show (⟨0, ([] : List Lock)⟩ : Ss_LockFree_1) = ⟨((0 : Nat) : Int), []⟩ from rfl, e1, bnd_some]
    have f1 : (p.held.filter (fun y => !isTx t y)).length ≤ p.held.length := List.length_filter_le _ _
    have e3 := (loop_fold p.wait (Bs_LockFree_2 p t) (fun (k : Nat) (a : FA) => ⟨a.went, k, a.held, a.stay⟩) (fun a => ⟨a.went, a.held, a.stay⟩) (fun a y => if (!isTx t y) = true then fstep a y else a)
      (fun k a => k ≤ p.wait.length ∧ FLen (p.held.filter (fun y => !isTx t y)).length k a) (fun k x a hx ⟨hk, hI⟩ => by
      have hlt := (List.getElem?_eq_some_iff.1 hx).1
      have e2 : IntKind.wrap .i64 ((k : Int) + 1) = ((k + 1 : Nat) : Int) := by rw [wrapL _ (by omega) (by omega)]; rfl
      refine ⟨?_, hlt, ?_⟩
      · obtain ⟨g1, g2⟩ := hI
        unfold Bs_LockFree_2
        dsimp only
        rw [List.length_map, decide_eq_true (by omega), cond_true, getI_at hx, bnd_some, e2]
        show bnd (bif (isTx t x) then _ else _) _ = _
        cases isTx t x with
        | true => rfl
        | false =>
          simp only [Bool.not_false, cond_false, if_true]
          rw [s_any _ _ (by omega), bnd_some, s_any _ _ (by omega)]
          unfold fstep
          cases a.held.any (cl x) with
          | true =>
            simp only [cond_true, bnd_some, Bool.true_or]
            rw [chk_i (by simp; omega), bnd_some, bnd_some]
          | false =>
            simp only [cond_false, bnd_some, Bool.false_or]
            cases a.stay.any (cl x) with
            | true => simp only [cond_true]; rw [chk_i (by simp; omega), bnd_some, bnd_some]
            | false => simp only [cond_false]; rw [chk_i (by simp; omega), chk_i (by simp; omega), bnd_some, bnd_some]
      · split
        · exact fstep_len x hI
        · obtain ⟨g1, g2⟩ := hI
          exact ⟨by omega, by omega⟩) (fun a ⟨_, _⟩ => by
      unfold Bs_LockFree_2
      dsimp only
      rw [List.length_map, decide_eq_false (by omega), cond_false]) ⟨p.held.filter (fun y => !isTx t y), [], []⟩ ⟨Nat.zero_le _, by simp [FLen]⟩).1
    rw [← List.foldl_filter] at e3
    rw [show (⟨[], 0, p.held.filter (fun y => !isTx t y), ([] : List Lock)⟩ : Ss_LockFree_2) = ⟨[], ((0 : Nat) : Int), p.held.filter (fun y => !isTx t y), []⟩ from rfl, e3, bnd_some]
    rfl

/-! ### What freeing leaves -/
theorem foldl_inv {α A : Type} (xs : List α) (step : A → α → A) (J : Nat → A → Prop) (hs : ∀ k x a, xs[k]? = some x → J k a → J (k + 1) (step a x)) (a : A) (h0 : J 0 a) : J xs.length (xs.foldl step a) := by
  have key : ∀ n k a, n = xs.length - k → k ≤ xs.length → J k a → J xs.length ((xs.drop k).foldl step a) := by
    intro n
    induction n with
    | zero =>
      intro k a hn hk hJ
      have e : k = xs.length := by omega
      subst e
      rw [List.drop_length]
      exact hJ
    | succ n ih =>
      intro k a hn hk hJ
      have hlt : k < xs.length := by omega
      rw [List.drop_eq_getElem_cons hlt, List.foldl_cons]
      exact ih (k + 1) _ (by omega) hlt (hs k _ a (List.getElem?_eq_getElem hlt) hJ)
  simpa using key _ 0 a rfl (Nat.zero_le _) h0
theorem free_ok (p : Locks) (t : Tx) (h : okB p = true) : okB (freeR p t).1 = true ∧ (∀ y ∈ (freeR p t).1.held ++ (freeR p t).1.wait, isTx t y = false) ∧ (freeR p t).1.held.length + (freeR p t).1.wait.length ≤ 60 := by
  obtain ⟨hlen, hH, hW⟩ := (okB_iff p).1 h
  have f1 : (p.held.filter (fun y => !isTx t y)).length ≤ p.held.length := List.length_filter_le _ _
  have f2 : (p.wait.filter (fun y => !isTx t y)).length ≤ p.wait.length := List.length_filter_le _ _
  have hpw : (p.wait.filter (fun y => !isTx t y)).Pairwise (fun a b => sameTx a.tx b.tx = false) := hW.2.1.filter _
  rw [List.pairwise_iff_getElem] at hpw
  have J := foldl_inv (p.wait.filter (fun y => !isTx t y)) fstep (fun k a => HOk a.held ∧ WOk a.held a.stay ∧ (∀ z ∈ a.stay, z ∈ (p.wait.filter (fun y => !isTx t y)).take k) ∧ (∀ z ∈ a.held ++ a.stay, isTx t z = false) ∧ FLen (p.held.filter (fun y => !isTx t y)).length k a)
    (fun k y a hy ⟨j1, j2, j3, j4, j5⟩ => by
      obtain ⟨hlt, rfl⟩ := List.getElem?_eq_some_iff.1 hy
      have hmem := List.mem_of_getElem? hy
      obtain ⟨hw1, hw2⟩ := List.mem_filter.1 hmem
      have hok := hW.1 _ hw1
      have hnt : isTx t (p.wait.filter (fun y => !isTx t y))[k] = false := by simpa using hw2
      have hlen' := fstep_len (p.wait.filter (fun y => !isTx t y))[k] j5
      have htk : (p.wait.filter (fun y => !isTx t y)).take (k + 1) = (p.wait.filter (fun y => !isTx t y)).take k ++ [(p.wait.filter (fun y => !isTx t y))[k]] := by rw [List.take_add_one, List.getElem?_eq_getElem hlt]; rfl
      revert hlen'
      unfold fstep
      cases hc : a.held.any (cl (p.wait.filter (fun y => !isTx t y))[k]) || a.stay.any (cl (p.wait.filter (fun y => !isTx t y))[k]) with
      | true =>
        simp only [cond_true]
        refine fun hlen' => ⟨j1, wok_snoc j2 hok ?_ hc, fun z hz => ?_, fun z hz => ?_, hlen'⟩
        · rw [List.any_eq_false]
          intro z hz
          obtain ⟨i, hi, e⟩ := List.mem_take_iff_getElem.1 (j3 z hz)
          have := hpw i k (by omega) hlt (by omega)
          rw [← e, this]
          simp
        · rw [htk]
          rcases List.mem_append.1 hz with hz | hz
          · exact List.mem_append_left _ (j3 z hz)
          · exact List.mem_append_right _ hz
        · rw [← List.append_assoc] at hz
          rcases List.mem_append.1 hz with hz | hz
          · exact j4 z hz
          · simp at hz; rw [hz]; exact hnt
      | false =>
        simp only [cond_false]
        rw [Bool.or_eq_false_iff] at hc
        refine fun hlen' => ⟨hok_snoc j1 hok hc.1, wok_mono j2 (fun x hx => List.mem_append_left _ hx), fun z hz => ?_, fun z hz => ?_, hlen'⟩
        · rw [htk]; exact List.mem_append_left _ (j3 z hz)
        · rcases List.mem_append.1 hz with hz | hz
          · rcases List.mem_append.1 hz with hz | hz
            · exact j4 z (List.mem_append_left _ hz)
            · simp at hz; rw [hz]; exact hnt
          · exact j4 z (List.mem_append_right _ hz)) ⟨p.held.filter (fun y => !isTx t y), [], []⟩
    ⟨hok_filter _ hH, ⟨by simp, by simp, by simp⟩, by simp, fun z hz => by
      rw [List.append_nil] at hz
      simpa using (List.mem_filter.1 hz).2, by simp [FLen]⟩
  obtain ⟨j1, j2, j3, j4, j5, j6⟩ := J
  refine ⟨(okB_iff _).2 ⟨?_, j1, j2⟩, j4, ?_⟩ <;> (show (freeA p t).held.length + (freeA p t).stay.length ≤ 60; unfold freeA; omega)
end Go.Proofs.Ytagoajkiccgmjaa
namespace Go.Proofs.Ytagoajkiccgmjaa
open Go.Mv Go.RowKit

theorem small_of {p : Locks} (h1 : p.held.length ≤ 1000) (h2 : p.wait.length ≤ 1000) : Small p := ⟨by omega, by omega⟩
theorem askR_len (p : Locks) (x : Lock) : (askR p x).1.held.length + (askR p x).1.wait.length ≤ 60 := by
  unfold askR
  cases hok : okB p with
  | false => simp
  | true =>
    have := okB_len hok
    cases (!true) || (!s_l07LockOk x) || p.wait.any (fun y => sameTx y.tx x.tx) with
    | true => simp
    | false =>
      simp only [cond_false]
      cases hd : decide (p.held.length + p.wait.length = 60) with
      | true => simp
      | false =>
        have := of_decide_eq_false hd
        simp only [cond_false]
        cases p.held.any (cl x) || p.wait.any (cl x) <;> simp <;> omega
theorem freeQ_len (p : Locks) (t : Tx) : (freeQ p t).1.held.length + (freeQ p t).1.wait.length ≤ 60 := by
  unfold freeQ
  cases hok : okB p with
  | false => simp
  | true => exact (free_ok p t hok).2.2
theorem g_l07Draw (c : L01Cur) (hc : CurOk c) : Gives (s_l07Draw c) (fun r => CurOk r.1 ∧ r.2.held.length + r.2.wait.length ≤ 60) := by
  unfold s_l07Draw
  refine gives_bnd (g_below c 9 hc) fun r1 h1 => ?_
  refine gives_bnd (P := fun j => CurOk ⟨j.w0_0_0, j.w0_0_1, j.w0_0_2⟩ ∧ j.w3_0_0.length + j.w3_0_1.length ≤ 60) (gives_loop (fun s => CurOk ⟨s.w0_0_0, s.w0_0_1, s.w0_0_2⟩ ∧ s.w3_0_0.length + s.w3_0_1.length ≤ 60 ∧ s.v4 ≤ 9) (fun s => s.v4.toNat) (fun s ⟨i1, i2, i3⟩ => ?_)
    ⟨h1.1, by simp, by have := h1.2.2 (by decide); dsimp only; omega⟩) fun j hj => gives_some hj
  unfold Bs_l07Draw_1
  refine gives_cond (fun h => ?_) fun _ => gives_some ⟨i1, i2⟩
  have hp := of_decide_eq_true h
  have hw : IntKind.wrap .i64 (s.v4 - 1) = s.v4 - 1 := wrapL _ (by omega) (by omega)
  refine gives_bnd (P := fun j => CurOk ⟨j.w0_0_0, j.w0_0_1, j.w0_0_2⟩ ∧ j.w3_0_0.length + j.w3_0_1.length ≤ 60) (gives_bnd (g_below _ 5 i1) fun r2 h2 => gives_cond (fun _ => ?_) fun _ => ?_) fun j hj => gives_some ⟨⟨hj.1, hj.2, ?_⟩, ?_⟩
  · refine gives_bnd (g_tx _ h2.1) fun r3 h3 => gives_bnd (P := fun r => r.1.held.length + r.1.wait.length ≤ 60) (gives_eq (s_LockFree_eq _ _ (small_of (by dsimp only; omega) (by dsimp only; omega))) (freeQ_len _ _)) fun r4 h4 => gives_some ⟨h3, h4⟩
  · refine gives_bnd (g_lock _ h2.1) fun r5 h5 => gives_bnd (P := fun r => r.1.held.length + r.1.wait.length ≤ 60) (gives_eq (s_LockAsk_eq _ _ (small_of (by dsimp only; omega) (by dsimp only; omega))) (askR_len _ _)) fun r6 h6 => ?_
    exact gives_bnd (P := fun j => j.w3_0_0.length + j.w3_0_1.length ≤ 60) (gives_cond (fun _ => gives_some h6) fun _ => gives_some i2) fun j hj => gives_some ⟨h5, hj⟩
  · dsimp only; omega
  · dsimp only; omega
theorem g_anyLocks (c : L01Cur) (hc : CurOk c) : Gives (s_l07AnyLocks c) (fun r => CurOk r.1 ∧ r.2.held.length ≤ 1000 ∧ r.2.wait.length ≤ 1000) := by
  unfold s_l07AnyLocks
  refine gives_bnd (g_l07Draw c hc) fun r1 h1 => gives_bnd (g_below _ 12 h1.1) fun r2 h2 => ?_
  refine gives_bnd (P := fun j => CurOk ⟨j.w0_0_0, j.w0_0_1, j.w0_0_2⟩ ∧ j.w3_0_0.length ≤ 60) (gives_cond (fun h => ?_) fun _ => gives_some ⟨h2.1, by dsimp only; omega⟩) fun j1 k1 => ?_
  · have hd : (0 : Int) < r1.2.held.length := by
      cases e : (r2.2 == 0) with
      | false => rw [e] at h; cases h
      | true => rw [e, List.length_map] at h; exact of_decide_eq_true h
    exact gives_bnd (g_anyRange _ h2.1) fun r3 h3 => gives_bnd (P := fun _ => True) (gives_getI (Int.le_refl _) hd fun _ _ _ => trivial) fun x _ => gives_some ⟨h3, by dsimp only; rw [List.length_set]; omega⟩
  refine gives_bnd (P := fun j => CurOk ⟨j.w0_0_0, j.w0_0_1, j.w0_0_2⟩ ∧ j.w3_0_0.length ≤ 61) (gives_cond (fun _ => gives_bnd (g_lock _ k1.1) fun r4 h4 => gives_chk (by simp; omega) (gives_some ⟨h4, by simp; omega⟩)) fun _ => gives_some ⟨k1.1, by dsimp only; omega⟩) fun j2 k2 => ?_
  refine gives_bnd (P := fun j => CurOk ⟨j.w0_0_0, j.w0_0_1, j.w0_0_2⟩ ∧ j.w3_0_1.length ≤ 61) (gives_cond (fun _ => gives_bnd (g_lock _ k2.1) fun r4 h4 => gives_chk (by simp; omega) (gives_some ⟨h4, by simp; omega⟩)) fun _ => gives_some ⟨k2.1, by dsimp only; omega⟩) fun j3 k3 => ?_
  refine gives_bnd (P := fun j => CurOk ⟨j.w0_0_0, j.w0_0_1, j.w0_0_2⟩ ∧ j.w3_0_1.length ≤ 61) (gives_cond (fun h => ?_) fun _ => gives_some k3) fun j4 k4 => ?_
  · have hd : (0 : Int) < j3.w3_0_1.length := by
      cases e : (r2.2 == 3) with
      | false => rw [e] at h; cases h
      | true => rw [e, List.length_map] at h; exact of_decide_eq_true h
    exact gives_bnd (g_anyTx _ k3.1) fun r3 h3 => gives_bnd (P := fun _ => True) (gives_getI (Int.le_refl _) hd fun _ _ _ => trivial) fun x _ => gives_some ⟨h3, by dsimp only; rw [List.length_set]; omega⟩
  refine gives_bnd (P := fun j => CurOk ⟨j.w0_0_0, j.w0_0_1, j.w0_0_2⟩ ∧ j.w3_0_0.length ≤ 1000 ∧ j.w3_0_1.length ≤ 1000) (gives_cond (fun _ => ?_) fun _ => gives_some ⟨k4.1, by dsimp only; omega, by dsimp only; omega⟩) fun j6 k6 => gives_some k6
  refine gives_bnd (P := fun j => CurOk ⟨j.w0_0_0, j.w0_0_1, j.w0_0_2⟩ ∧ j.w3_0_0.length ≤ 61) (gives_loop (fun s => CurOk ⟨s.w0_0_0, s.w0_0_1, s.w0_0_2⟩ ∧ (s.w3_0_0.length : Int) ≤ s.v5 ∧ 0 ≤ s.v5 ∧ s.v5 ≤ 61) (fun s => 100 - s.v5.toNat) (fun s ⟨i1, i2, i3, i4⟩ => ?_) ⟨k4.1, by simp, by simp, by simp⟩)
    fun j5 k5 => gives_some ⟨k5.1, by dsimp only; omega, by simp⟩
  unfold Bs_l07AnyLocks_1
  refine gives_bnd (g_below _ 3 i1) fun r7 h7 => gives_cond (fun h => ?_) fun _ => gives_some ⟨h7.1, by dsimp only; omega⟩
  have hb := h7.2.2 (by decide)
  have hb0 := h7.2.1
  rw [wrapL (59 + r7.2) (by omega) (by omega)] at h
  have hlt := of_decide_eq_true h
  refine gives_bnd (g_tx _ h7.1) fun r8 h8 => gives_bnd (g_range _ h8) fun r9 h9 => gives_chk (by simp; omega) (gives_some ⟨⟨h9, ?_, ?_, ?_⟩, ?_⟩) <;> dsimp only <;> rw [wrapL _ (by omega) (by omega)] <;> (try simp) <;> omega
theorem g_draw (b : List Int) (hb : b.length ≤ 1048576) : Gives (s_DrawLockAsk b) (fun r => r.1.held.length ≤ 1000 ∧ r.1.wait.length ≤ 1000) := by
  unfold s_DrawLockAsk
  refine gives_bnd (g_new b hb) fun r1 h1 => gives_bnd (g_anyLocks _ h1) fun r2 h2 => gives_bnd (g_lock _ h2.1) fun r3 h3 => gives_bnd (g_below _ 8 h3) fun r4 h4 => ?_
  exact gives_bnd (P := fun _ => True) (gives_cond (fun _ => gives_bnd (g_anyTx _ h4.1) fun r5 h5 => gives_bnd (g_anyRange _ h5) fun r6 h6 => gives_some trivial) fun _ => gives_some trivial) fun j _ => gives_some h2.2

/-! ### LockHas -/
theorem rangeIn_eq (p q : Range) : i_RangeIn p q = s_RangeIn p q := by
  unfold i_RangeIn s_RangeIn
  rw [rangeOk_eq, rangeOk_eq]
  cases s_RangeOk p <;> cases s_RangeOk q <;> cases Op.bytesLess p.lo.toList q.lo.toList <;> rfl
noncomputable def hasL (t : Tx) (r : Range) (ex : Bool) (y : Lock) : Bool := bif sameTx y.tx t then (bif s_RangeIn r y.range then (bif y.ex then true else (!ex)) else false) else false
theorem i_LockHas_eq (p : Locks) (t : Tx) (r : Range) (ex : Bool) (hp : Small p) : i_LockHas p t r ex = some (bif okB p then p.held.any (hasL t r ex) else false) := by
  have hn : p.held.length < 9223372036854775807 := by have := hp.1; omega
  unfold i_LockHas
  rw [i_LocksOk_eq p hp, bnd_some]
  cases okB p with
  | false => rfl
  | true =>
    simp only [cond_true]
    unfold i_Locks_has sl_ContainsFunc_Lock_i_Locks_has_c1 sl_IndexFunc_Lock_i_Locks_has_c1
    have := loop_first p.held (fun k y => if hasL t r ex y then some (k : Int) else none) (Bsl_IndexFunc_Lock_i_Locks_has_c1_1 p.held t r ex) outU hn (fun k y hy => by
      have hlt := (List.getElem?_eq_some_iff.1 hy).1
      unfold Bsl_IndexFunc_Lock_i_Locks_has_c1_1 i_Locks_has_c1
      rw [List.length_map, decide_eq_true (by omega : (k : Int) < (p.held.length : Int)), cond_true, getI_at hy, bnd_some, rangeIn_eq]
      show (bif hasL t r ex y then _ else _) = _
      cases hasL t r ex y <;> rfl) (by unfold Bsl_IndexFunc_Lock_i_Locks_has_c1_1; rw [List.length_map, decide_eq_false (by omega), cond_false]; rfl)
    rw [this]
    have key : ∀ (ys : List Lock) (k : Nat), (firstL (fun k y => if hasL t r ex y then some (k : Int) else none) ys k = none ∧ ys.any (hasL t r ex) = false) ∨ ∃ j : Nat, firstL (fun k y => if hasL t r ex y then some (k : Int) else none) ys k = some (j : Int) ∧ ys.any (hasL t r ex) = true := by
      intro ys
      induction ys with
      | nil => intro k; exact .inl ⟨rfl, rfl⟩
      | cons y ys ih =>
        intro k
        simp only [firstL, List.any_cons]
        cases h : hasL t r ex y with
        | true => exact .inr ⟨k, by simp, by simp⟩
        | false => simpa using ih (k + 1)
    rcases key p.held 0 with ⟨h1, h2⟩ | ⟨j, h1, h2⟩
    · rw [h1, h2]; rfl
    · rw [h1, h2]
      simp [outU]
theorem s_LockHas_eq (p : Locks) (t : Tx) (r : Range) (ex : Bool) (hp : Small p) : s_LockHas p t r ex = some (bif okB p then p.held.any (hasL t r ex) else false) := by
  have hn : p.held.length < 9223372036854775807 := by have := hp.1; omega
  unfold s_LockHas
  rw [s_LocksOk_eq p hp, bnd_some]
  cases okB p with
  | false => rfl
  | true =>
    simp only [Bool.not_true, cond_false, cond_true]
    have := loop_first p.held (fun _ y => if hasL t r ex y then some true else none) (Bs_LockHas_1 p t r ex) outU hn (fun k y hy => by
      have hlt := (List.getElem?_eq_some_iff.1 hy).1
      unfold Bs_LockHas_1
      rw [List.length_map, decide_eq_true (by omega : (k : Int) < (p.held.length : Int)), cond_true, getI_at hy, bnd_some]
      show (bif hasL t r ex y then _ else _) = _
      cases hasL t r ex y <;> rfl) (by unfold Bs_LockHas_1; rw [List.length_map, decide_eq_false (by omega), cond_false]; rfl)
    rw [this, firstL_any]
    cases p.held.any (hasL t r ex) <;> rfl

/-! ### THE PLAIN LAW -/
theorem hasL_self (x : Lock) (h : s_l07LockOk x = true) : hasL x.tx x.range x.ex x = true := by
  have hr : s_RangeOk x.range = true := by
    unfold s_l07LockOk at h
    cases e : s_TxOk x.tx with
    | false => rw [e] at h; cases h
    | true => rw [e] at h; exact h
  have hl : Op.bytesLess x.range.lo.toList x.range.lo.toList = false := by
    have := bytesLess_total x.range.lo.toList x.range.lo.toList
    simpa using this
  unfold hasL s_RangeIn sameTx
  rw [hr, hl]
  cases x.range.hi.toList == (⟨#[]⟩ : ByteArray).toList <;> cases x.ex <;> simp
theorem ask_ok (p : Locks) (x : Lock) (hk : (askR p x).2 = 0 ∨ (askR p x).2 = 3) : okB p = true ∧ s_l07LockOk x = true ∧ okB (askR p x).1 = true ∧
    (bif okB (askR p x).1 then (askR p x).1.held.any (hasL x.tx x.range x.ex) else false) = (bif (askR p x).2 == 0 then true else (bif okB p then p.held.any (hasL x.tx x.range x.ex) else false)) := by
  revert hk
  unfold askR
  cases hok : okB p with
  | false => intro hk; simp at hk
  | true =>
    cases hlo : s_l07LockOk x with
    | false => intro hk; simp at hk
    | true =>
      cases hw : p.wait.any (fun y => sameTx y.tx x.tx) with
      | true => intro hk; simp at hk
      | false =>
        cases hd : decide (p.held.length + p.wait.length = 60) with
        | true => intro hk; simp at hk
        | false =>
          have hne := of_decide_eq_false hd
          obtain ⟨hlen, hH, hW⟩ := (okB_iff p).1 hok
          simp only [Bool.not_true, Bool.or_self, cond_false]
          cases hc : p.held.any (cl x) || p.wait.any (cl x) with
          | true =>
            intro _
            have hm : okB ⟨p.held, p.wait ++ [x]⟩ = true := (okB_iff _).2 ⟨by simp; omega, hH, wok_snoc hW hlo hw hc⟩
            simp only [cond_true]
            refine ⟨trivial, trivial, hm, ?_⟩
            rw [hm]
            rfl
          | false =>
            intro _
            rw [Bool.or_eq_false_iff] at hc
            have hm : okB ⟨p.held ++ [x], p.wait⟩ = true := (okB_iff _).2 ⟨by simp; omega, hok_snoc hH hlo hc.1, wok_mono hW fun y hy => List.mem_append_left _ hy⟩
            simp only [cond_false]
            refine ⟨trivial, trivial, hm, ?_⟩
            rw [hm]
            simp [hasL_self x hlo]
theorem ask_code (p : Locks) (x : Lock) : (askR p x).2 = 0 ∨ (askR p x).2 = 3 ∨ ((askR p x).2 = 1 ∧ (askR p x).1 = ⟨[], []⟩) ∨ ((askR p x).2 = 2 ∧ (askR p x).1 = ⟨[], []⟩) := by
  unfold askR
  cases (!okB p) || (!s_l07LockOk x) || p.wait.any (fun y => sameTx y.tx x.tx) with
  | true => exact .inr (.inr (.inl ⟨rfl, rfl⟩))
  | false =>
    cases decide (p.held.length + p.wait.length = 60) with
    | true => exact .inr (.inr (.inr ⟨rfl, rfl⟩))
    | false =>
      cases p.held.any (cl x) || p.wait.any (cl x) with
      | true => exact .inr (.inl rfl)
      | false => exact .inl rfl
theorem law_Locks (b : List Int) : w_FnLocks b = some true := by
  unfold w_FnLocks
  cases hd : decide ((((b.map eN_u8).length : Nat) : Int) > 1048576) with
  | true => rfl
  | false =>
    have hb := of_decide_eq_false hd
    rw [List.length_map] at hb
    obtain ⟨⟨p, x⟩, hr, h1, h2⟩ := g_draw b (by omega)
    dsimp only at h1 h2
    have hp := small_of h1 h2
    have hl := askR_len p x
    have hm : Small (askR p x).1 := small_of (by omega) (by omega)
    simp only [cond_false]
    rw [hr, bnd_some, i_LockAsk_eq p x hp, bnd_some, s_LockAsk_eq p x hp, bnd_some, bne_self_eq_false, cond_false]
    have good : ((askR p x).2 = 0 ∨ (askR p x).2 = 3) → w_FnLocks b = some true := fun hk => by
      obtain ⟨g1, g2, g3, g4⟩ := ask_ok p x hk
      have hc1 : (bif ((askR p x).2 == 1) then true else ((askR p x).2 == 2)) = false := by rcases hk with hk | hk <;> rw [hk] <;> rfl
      obtain ⟨q1, q2, q3⟩ := free_ok (askR p x).1 x.tx g3
      have hfq : freeQ (askR p x).1 x.tx = freeR (askR p x).1 x.tx := by unfold freeQ; rw [g3]; rfl
      have hsq : Small (freeR (askR p x).1 x.tx).1 := small_of (by omega) (by omega)
      unfold w_FnLocks
      rw [hd]
      simp only [cond_false]
      rw [hr, bnd_some, i_LockAsk_eq p x hp, bnd_some, s_LockAsk_eq p x hp, bnd_some, bne_self_eq_false, cond_false, hc1, cond_false, i_LockFree_eq _ _ hm, bnd_some, hfq, chk_i (by simp; omega), chk_i (by omega)]
      have lp := loop_first ((freeR (askR p x).1 x.tx).1.held ++ (freeR (askR p x).1 x.tx).1.wait) (fun _ y => if isTx x.tx y then some false else none) (Bw_FnLocks_1 (p, x) (freeR (askR p x).1 x.tx)) outU (by rw [List.length_append]; omega) (fun k y hy => by
        have hlt := (List.getElem?_eq_some_iff.1 hy).1
        unfold Bw_FnLocks_1
        rw [decide_eq_true (by omega), cond_true, getI_at hy, bnd_some]
        show (bif isTx x.tx y then _ else _) = _
        cases isTx x.tx y <;> rfl) (by unfold Bw_FnLocks_1; rw [decide_eq_false (by omega), cond_false]; rfl)
      rw [lp, firstL_any]
      have : ((freeR (askR p x).1 x.tx).1.held ++ (freeR (askR p x).1 x.tx).1.wait).any (isTx x.tx) = false := by
        rw [List.any_eq_false]
        intro y hy
        rw [q2 y hy]
        simp
      rw [this]
      simp only [Bool.false_eq_true, if_false, outU, bndS_inl]
      rw [i_LocksOk_eq _ hm, bnd_some, g3, i_LocksOk_eq _ hsq, bnd_some, q1]
      simp only [cond_true]
      rw [i_LockHas_eq _ _ _ _ hm, bnd_some, g4]
      rcases hk with hk | hk
      · rw [hk]; rfl
      · rw [hk]
        simp only [show ((3 : Int) == 0) = false from rfl, cond_false]
        rw [s_LockHas_eq _ _ _ _ hp]
        simp only [bnd_some]
        rw [beq_self_eq_true]
    rcases ask_code p x with hk | hk | ⟨hk, he⟩ | ⟨hk, he⟩
    · have := good (.inl hk); unfold w_FnLocks at this; rw [hd] at this; simp only [cond_false] at this; rwa [hr, bnd_some, i_LockAsk_eq p x hp, bnd_some, s_LockAsk_eq p x hp, bnd_some, bne_self_eq_false, cond_false] at this
    · have := good (.inr hk); unfold w_FnLocks at this; rw [hd] at this; simp only [cond_false] at this; rwa [hr, bnd_some, i_LockAsk_eq p x hp, bnd_some, s_LockAsk_eq p x hp, bnd_some, bne_self_eq_false, cond_false] at this
    · rw [hk, he]; rfl
    · rw [hk, he]; rfl
theorem ok_Locks (b : List Int) : CallOK Try.prog 4 [lV 1 eN_u8 b] (bV true) [] := k_w_FnLocks b true (law_Locks b)
end Go.Proofs.Ytagoajkiccgmjaa
