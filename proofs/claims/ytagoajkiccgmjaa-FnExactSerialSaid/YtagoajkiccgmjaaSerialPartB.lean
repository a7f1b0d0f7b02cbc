/- What functions of the given program compute, each proved once, for the law that is proved in YtagoajkiccgmjaaSerial: whatever their arguments, under the conditions that each theorem names. -/
import Derived.Test.YtagoajkiccgmjaaSerialPartA
set_option linter.unusedVariables false
set_option linter.unusedSimpArgs false
namespace Go.Proofs.Ytagoajkiccgmjaa
open Go.Mv Go.RowKit

/-! ### Keys of one's own -/
theorem len_of_sub : ∀ {l k : List ByteArray}, l.Nodup → (∀ x ∈ l, x ∈ k) → l.length ≤ k.length
  | [], k, _, _ => by simp
  | x :: l, k, hn, hs => by
    have hx : x ∈ k := hs x (by simp)
    obtain ⟨hxl, hn⟩ := List.nodup_cons.1 hn
    obtain ⟨a, b, rfl⟩ := List.append_of_mem hx
    have := len_of_sub (k := a ++ b) hn (fun y hy => by
      have h := hs y (by simp [hy])
      have hne : y ≠ x := fun e => hxl (e ▸ hy)
      simp only [List.mem_append, List.mem_cons] at h ⊢
      rcases h with h | h | h
      · exact .inl h
      · exact absurd h hne
      · exact .inr h)
    simp only [List.length_append, List.length_cons] at this ⊢
    omega
def KeysIn (p : List Pair) (K : List ByteArray) : Prop := ∀ x ∈ p, x.key ∈ K
theorem len_keys {p : List Pair} {K : List ByteArray} (hr : Rising p) (hk : KeysIn p K) : p.length ≤ K.length := by
  have hn : (p.map (·.key)).Nodup := by
    refine (List.pairwise_map.2 (((rising_iff p).1 hr).imp fun {x y} h e => ?_))
    rw [e, bL_irr] at h
    cases h
  have := len_of_sub hn (k := K) (fun k hk' => by
    obtain ⟨x, hx, rfl⟩ := List.mem_map.1 hk'
    exact hk x hx)
  simpa using this
theorem runP_keys {p : List Pair} {a : Ask} {K : List ByteArray} (hk : KeysIn p K) (ha : a.key ∈ K) : KeysIn (runP p a).1 K := by
  unfold runP
  cases a.kind == 2 with
  | true =>
    intro x hx
    rcases mem_put hx with h | h
    · exact hk x h
    · rw [List.mem_singleton] at h; subst h; exact ha
  | false =>
    cases a.kind == 3 with
    | true =>
      intro x hx
      rcases mem_put hx with h | h
      · exact hk x h
      · cases h
    | false => exact hk

/-! ### One transaction -/
theorem same_both (a b : List Pair) : sl_Equal_Pair a b = s_l13Same a b := by
  simp only [s_l13Same, ws_l13Same, sl_Equal_Pair, wsl_Equal_Pair, Bs_l13Same_1, Bsl_Equal_Pair_1, W.D]
theorem same_some (a b : List Pair) (hn : a.length < 9223372036854775807) : ∃ r, s_l13Same a b = some r := by
  simp only [s_l13Same, ws_l13Same, W.D]
  by_cases h : a.length = b.length
  · obtain ⟨t, ht, _⟩ := loopT_ex (f := fun s => (Bs_l13Same_1 a b s).den) (fun _ => True) (fun s => 0 ≤ s ∧ s ≤ a.length) (fun s => a.length - s.toNat) (fun s ⟨h0, h1⟩ => by
      obtain ⟨k, rfl⟩ := Int.eq_ofNat_of_zero_le h0
      simp only [Bs_l13Same_1, W.D]
      by_cases he : k = a.length
      · subst he
        rw [decide_eq_false (by omega), cond_false]
        exact .inl ⟨_, rfl, trivial⟩
      · have hlt : k < a.length := by omega
        rw [decide_eq_true (by omega : (k : Int) < (a.length : Int)), cond_true, getI_at (List.getElem?_eq_getElem hlt), getI_at (List.getElem?_eq_getElem (by omega : k < b.length))]
        simp only [W.D]
        cases (!((a[k].key.toList == b[k].key.toList) && ((a[k].val.toList == b[k].val.toList) && true))) with
        | true => exact .inl ⟨_, rfl, trivial⟩
        | false => refine .inr ⟨_, rfl, ?_, ?_⟩ <;> rw [wrapL _ (by omega) (by omega)] <;> omega) 0 ⟨by omega, by omega⟩
    rw [ht]
    cases t with
    | inl j => exact ⟨_, by rw [show (((a.length : Nat) : Int) != ((b.length : Nat) : Int)) = false by simp [h]]; rfl⟩
    | inr j => exact ⟨_, by rw [show (((a.length : Nat) : Int) != ((b.length : Nat) : Int)) = false by simp [h]]; rfl⟩
  · rw [show (((a.length : Nat) : Int) != ((b.length : Nat) : Int)) = true by simp; omega]
    exact ⟨_, rfl⟩
noncomputable def sameP (a b : List Pair) : Bool := (s_l13Same a b).getD false
theorem s_same_eq (a b : List Pair) (hn : a.length < 9223372036854775807) : s_l13Same a b = some (sameP a b) := by
  obtain ⟨r, hr⟩ := same_some a b hn
  unfold sameP; rw [hr]; rfl
noncomputable def isOf (r : Reply) (x : Tx) : Bool := (i_isOf r x).getD false
theorem i_isOf_eq (r : Reply) (x : Tx) : i_isOf r x = some (isOf r x) := by
  have : ∃ b, i_isOf r x = some b := ⟨_, by simp only [i_isOf, wi_isOf, W.D]; rfl⟩
  obtain ⟨b, h⟩ := this
  unfold isOf; rw [h]; rfl
theorem isOf_eq (r : Reply) (x : Tx) : isOf r x = (bif r.kind == 2 then bif ((r.tx.c == x.c) && ((r.tx.e == x.e) && ((r.tx.n == x.n) && true))) then r.code == 0 else false else false) := by
  have h := i_isOf_eq r x
  simp only [i_isOf, wi_isOf, W.D] at h
  exact (Option.some.inj h).symm
noncomputable def txR (x : Tx) : List Reply → List Pair → Bool → Option (List Pair × Bool)
  | [], now, good => some (now, good)
  | r :: rs, now, good => bif isOf r x then (bif aOk r.ask then txR x rs (runP now r.ask).1 (good && sameP (runP now r.ask).2 r.pairs) else none) else txR x rs now good
theorem txR_ok {x : Tx} {K : List ByteArray} : ∀ {rs : List Reply} {now : List Pair} {good : Bool} {v : List Pair × Bool}, dOk now = true → KeysIn now K → (∀ r ∈ rs, r.ask.key ∈ K) → txR x rs now good = some v → dOk v.1 = true ∧ KeysIn v.1 K
  | [], now, good, v, h1, h2, h3, h => by cases h; exact ⟨h1, h2⟩
  | r :: rs, now, good, v, h1, h2, h3, h => by
    unfold txR at h
    cases hi : isOf r x with
    | false => rw [hi] at h; exact txR_ok h1 h2 (fun r' hr => h3 r' (by simp [hr])) h
    | true =>
      rw [hi] at h
      cases ha : aOk r.ask with
      | false => rw [ha] at h; cases h
      | true =>
        rw [ha] at h
        exact txR_ok (runP_ok h1 ha) (runP_keys h2 (h3 r (by simp))) (fun r' hr => h3 r' (by simp [hr])) h
theorem drop_at {α : Type} {xs : List α} {k : Nat} {x : α} (h : xs[k]? = some x) : xs.drop k = x :: xs.drop (k + 1) := by
  obtain ⟨hl, rfl⟩ := List.getElem?_eq_some_iff.1 h
  exact List.drop_eq_getElem_cons hl
theorem i_tx_loop (log : List Reply) (x : Tx) (K : List ByteArray) (hK : (K.length + 3) * 32 ≤ 140737488355328) (hn : log.length < 9223372036854775807) (hl : ∀ r ∈ log, r.ask.key ∈ K) (p : List Pair) (hd : dOk p = true) (hk : KeysIn p K) :
    loopT (fun s => (Bi_RunTx_1 log x s).den) ⟨p, true, 0⟩ = some (match txR x log p true with | some v => .inl ⟨v.1, v.2⟩ | none => .inr ([], false)) := by
  have := loopT_val (f := fun s => (Bi_RunTx_1 log x s).den) (fun s => some (match txR x (log.drop s.v21.toNat) s.v8 s.v9 with | some v => .inl ⟨v.1, v.2⟩ | none => .inr ([], false))) (fun s => (∃ k : Nat, s.v21 = k ∧ k ≤ log.length) ∧ dOk s.v8 = true ∧ KeysIn s.v8 K) (fun s => log.length - s.v21.toNat) (fun s ⟨⟨k, h0, h1⟩, h2, h3⟩ => by
    obtain ⟨v8, v9, v21⟩ := s
    simp only at h0 h2 h3
    subst h0
    have hlen := len_keys ((dOk_iff v8).1 h2).2 h3
    by_cases he : k = log.length
    · left
      subst he
      refine ⟨.inl ⟨v8, v9⟩, ?_, by simp [txR]⟩
      simp only [Bi_RunTx_1, W.D]
      rw [decide_eq_false (by omega), cond_false]
    · have hlt : k < log.length := by omega
      have hx := List.getElem?_eq_getElem hlt
      have hmem := hl log[k] (List.getElem_mem hlt)
      generalize log[k] = r at hx hmem
      simp only [Int.toNat_natCast, drop_at hx, Bi_RunTx_1, W.D, txR]
      rw [decide_eq_true (by omega : (k : Int) < (log.length : Int)), cond_true, getI_at hx, wrapL _ (by omega) (by omega)]
      simp only [W.D, i_isOf_eq, i_AskOk_eq]
      cases hi : isOf r x with
      | false =>
        right
        refine ⟨⟨v8, v9, ((k + 1 : Nat) : Int)⟩, rfl, ⟨⟨k + 1, rfl, by omega⟩, h2, h3⟩, by simp; omega, by simp only [Int.toNat_natCast, cond_false]⟩
      | true =>
        cases ha : aOk r.ask with
        | false =>
          left
          exact ⟨.inr ([], false), rfl, rfl⟩
        | true =>
          right
          have hlr := (runP_len v8 r.ask).2
          refine ⟨⟨(runP v8 r.ask).1, v9 && sameP (runP v8 r.ask).2 r.pairs, ((k + 1 : Nat) : Int)⟩, ?_, ⟨⟨k + 1, rfl, by omega⟩, runP_ok h2 ha, runP_keys h3 hmem⟩, by simp; omega, by simp only [Int.toNat_natCast, cond_true]⟩
          simp only [Bool.not_true, cond_false, i_runAsk_eq v8 r.ask (by omega) ((dOk_iff v8).1 h2).2 ha, W.D, same_both, s_same_eq _ _ (show (runP v8 r.ask).2.length < 9223372036854775807 by omega)]
          cases v9 <;> rfl) ⟨p, true, 0⟩ ⟨⟨0, rfl, by omega⟩, hd, hk⟩
  simpa using this
theorem s_tx_loop (log : List Reply) (x : Tx) (K : List ByteArray) (hK : (K.length + 3) * 32 ≤ 140737488355328) (hn : log.length < 9223372036854775807) (hl : ∀ r ∈ log, r.ask.key ∈ K) (p : List Pair) (hd : dOk p = true) (hk : KeysIn p K) :
    loopT (fun s => (Bs_RunTx_1 log x s).den) ⟨p, true, 0⟩ = some (match txR x log p true with | some v => .inl ⟨v.1, v.2⟩ | none => .inr ([], false)) := by
  have := loopT_val (f := fun s => (Bs_RunTx_1 log x s).den) (fun s => some (match txR x (log.drop s.v23.toNat) s.v8 s.v9 with | some v => .inl ⟨v.1, v.2⟩ | none => .inr ([], false))) (fun s => (∃ k : Nat, s.v23 = k ∧ k ≤ log.length) ∧ dOk s.v8 = true ∧ KeysIn s.v8 K) (fun s => log.length - s.v23.toNat) (fun s ⟨⟨k, h0, h1⟩, h2, h3⟩ => by
    obtain ⟨v8, v9, v23⟩ := s
    simp only at h0 h2 h3
    subst h0
    have hlen := len_keys ((dOk_iff v8).1 h2).2 h3
    by_cases he : k = log.length
    · left
      subst he
      refine ⟨.inl ⟨v8, v9⟩, ?_, by simp [txR]⟩
      simp only [Bs_RunTx_1, W.D]
      rw [decide_eq_false (by omega), cond_false]
    · have hlt : k < log.length := by omega
      have hx := List.getElem?_eq_getElem hlt
      have hmem := hl log[k] (List.getElem_mem hlt)
      generalize log[k] = r at hx hmem
      simp only [Int.toNat_natCast, drop_at hx, Bs_RunTx_1, W.D, txR]
      rw [decide_eq_true (by omega : (k : Int) < (log.length : Int)), cond_true, getI_at hx, wrapL _ (by omega) (by omega)]
      have hio : (bif r.kind != 2 then true else bif !((r.tx.c == x.c) && ((r.tx.e == x.e) && ((r.tx.n == x.n) && true))) then true else r.code != 0) = !isOf r x := by
        rw [isOf_eq]
        simp only [bne]
        cases r.kind == 2 <;> cases ((r.tx.c == x.c) && ((r.tx.e == x.e) && ((r.tx.n == x.n) && true))) <;> cases r.code == 0 <;> rfl
      simp only [W.D, hio]
      cases hi : isOf r x with
      | false =>
        right
        refine ⟨⟨v8, v9, ((k + 1 : Nat) : Int)⟩, rfl, ⟨⟨k + 1, rfl, by omega⟩, h2, h3⟩, by simp; omega, by simp only [Int.toNat_natCast, cond_false]⟩
      | true =>
        have hR := s_RunAsk_eq v8 r.ask (by omega)
        unfold RunP at hR
        rw [h2] at hR
        cases ha : aOk r.ask with
        | false =>
          left
          rw [ha] at hR
          simp only [Bool.not_true, cond_false, hR, Bool.and_false, W.D]
          exact ⟨.inr ([], false), rfl, rfl⟩
        | true =>
          right
          rw [ha] at hR
          have hlr := (runP_len v8 r.ask).2
          refine ⟨⟨(runP v8 r.ask).1, v9 && sameP (runP v8 r.ask).2 r.pairs, ((k + 1 : Nat) : Int)⟩, ?_, ⟨⟨k + 1, rfl, by omega⟩, runP_ok h2 ha, runP_keys h3 hmem⟩, by simp; omega, by simp only [Int.toNat_natCast, cond_true]⟩
          simp only [Bool.not_true, cond_false, hR, Bool.and_true, cond_true, W.D, s_same_eq _ _ (show (runP v8 r.ask).2.length < 9223372036854775807 by omega)]
          cases sameP (runP v8 r.ask).2 r.pairs <;> cases v9 <;> rfl) ⟨p, true, 0⟩ ⟨⟨0, rfl, by omega⟩, hd, hk⟩
  simpa using this
noncomputable def TxP (p : List Pair) (log : List Reply) (x : Tx) : List Pair × Bool := bif dOk p then (match txR x log p true with | some v => v | none => ([], false)) else ([], false)
theorem i_RunTx_eq (log : List Reply) (x : Tx) (K : List ByteArray) (hK : (K.length + 3) * 32 ≤ 140737488355328) (hn : log.length < 9223372036854775807) (hl : ∀ r ∈ log, r.ask.key ∈ K) (p : List Pair) (hp : (p.length + 2) * 32 ≤ 140737488355328) (hk : KeysIn p K) : i_RunTx p log x = some (TxP p log x) := by
  have hc : i_copyPairs p = some p := by
    simp only [i_copyPairs, wi_copyPairs, W.D]
    rw [if_pos (by simp only [List.length_nil]; omega)]
  simp only [i_RunTx, wi_RunTx, W.D, i_DataOk_eq p (by omega), hc]
  unfold TxP
  cases hd : dOk p with
  | false => rfl
  | true =>
    rw [i_tx_loop log x K hK hn hl p hd hk]
    cases txR x log p true <;> rfl
theorem s_RunTx_eq (log : List Reply) (x : Tx) (K : List ByteArray) (hK : (K.length + 3) * 32 ≤ 140737488355328) (hn : log.length < 9223372036854775807) (hl : ∀ r ∈ log, r.ask.key ∈ K) (p : List Pair) (hp : (p.length + 2) * 32 ≤ 140737488355328) (hk : KeysIn p K) : s_RunTx p log x = some (TxP p log x) := by
  have hc : (([] : List Pair).length + p.length) * 32 ≤ 140737488355328 := by simp only [List.length_nil]; omega
  simp only [s_RunTx, ws_RunTx, W.D, s_DataOk_eq p (by omega), if_pos hc]
  unfold TxP
  cases hd : dOk p with
  | false => rfl
  | true =>
    rw [s_tx_loop log x K hK hn hl p hd hk]
    cases txR x log p true <;> rfl
end Go.Proofs.Ytagoajkiccgmjaa
namespace Go.Proofs.Ytagoajkiccgmjaa
open Go.Mv Go.RowKit

/-! ### Sizes -/
def SmallP (p : Pair) : Prop := p.key.size ≤ 140737488351232 ∧ p.val.size ≤ 140737488351232
def SmallG (r : Range) : Prop := r.lo.size ≤ 140737488351232 ∧ r.hi.size ≤ 140737488351232
def SmallA (a : Ask) : Prop := a.key.size ≤ 140737488351232 ∧ a.val.size ≤ 140737488351232 ∧ SmallG a.range
def SmallL (xs : List Pair) : Prop := xs.length * 32 ≤ 140737488351232 ∧ ∀ x ∈ xs, SmallP x
def SmallR (r : Reply) : Prop := SmallA r.ask ∧ SmallL r.pairs
theorem g_szPair (x : Pair) (l : Int) (h0 : 0 ≤ l) (h1 : l ≤ 1048576) (hx : SmallP x) : Gives (w_szPair x l) (fun r => r ≤ l) := by
  obtain ⟨g1, g2⟩ := hx
  simp only [w_szPair, ww_szPair, W.E]
  rw [wrapL (l - (x.key.size : Int)) (by omega) (by omega), wrapL (l - (x.key.size : Int) - (x.val.size : Int)) (by omega) (by omega)]
  exact gives_cond (fun _ => gives_some (by omega)) fun _ => gives_cond (fun _ => gives_some (by omega)) fun _ => gives_some (by omega)
theorem g_szRange (x : Range) (l : Int) (h0 : 0 ≤ l) (h1 : l ≤ 1048576) (hx : SmallG x) : Gives (w_szRange x l) (fun r => r ≤ l) := by
  obtain ⟨g1, g2⟩ := hx
  simp only [w_szRange, ww_szRange, W.E]
  rw [wrapL (l - (x.lo.size : Int)) (by omega) (by omega), wrapL (l - (x.lo.size : Int) - (x.hi.size : Int)) (by omega) (by omega)]
  exact gives_cond (fun _ => gives_some (by omega)) fun _ => gives_cond (fun _ => gives_some (by omega)) fun _ => gives_some (by omega)
theorem g_szAsk (x : Ask) (l : Int) (h0 : 0 ≤ l) (h1 : l ≤ 1048576) (hx : SmallA x) : Gives (w_szAsk x l) (fun r => r ≤ l) := by
  obtain ⟨g1, g2, g3⟩ := hx
  simp only [w_szAsk, ww_szAsk, W.E]
  rw [wrapL (l - (x.key.size : Int)) (by omega) (by omega), wrapL (l - (x.key.size : Int) - (x.val.size : Int)) (by omega) (by omega)]
  refine gives_cond (fun _ => gives_some (by omega)) fun _ => gives_cond (fun _ => gives_some (by omega)) fun h => ?_
  have := of_decide_eq_false h
  exact gives_bnd (g_szRange _ _ (by omega) (by omega) g3) fun r hr => gives_cond (fun _ => gives_some (by omega)) fun _ => gives_some (by omega)
theorem g_szPairS (xs : List Pair) (l : Int) (h0 : 0 ≤ l) (h1 : l ≤ 1048576) (hx : SmallL xs) : Gives (w_szPairS xs l) (fun r => r ≤ l ∧ (0 ≤ r → (xs.length : Int) ≤ l)) := by
  obtain ⟨g1, g2⟩ := hx
  simp only [w_szPairS, ww_szPairS, W.E]
  rw [wrapL (l - (xs.length : Int)) (by omega) (by omega)]
  refine gives_cond (fun _ => gives_some ⟨by omega, fun h => by omega⟩) fun h => ?_
  have hl := of_decide_eq_false h
  refine gives_bndS (R := fun t => match t with | .inl j => j ≤ l | .inr j => j ≤ l) (gives_loop (fun s => (0 ≤ s.v1 ∧ s.v1 ≤ l) ∧ 0 ≤ s.v5 ∧ s.v5 ≤ (xs.length : Int)) (fun s => xs.length - s.v5.toNat) (fun s ⟨⟨k0, k1⟩, k2, k3⟩ => ?_) ⟨⟨by dsimp only; omega, by dsimp only; omega⟩, by dsimp only; omega, by dsimp only; omega⟩) (fun j hj => gives_some ⟨hj, fun _ => by omega⟩) (fun t ht => ⟨ht, fun _ => by omega⟩)
  obtain ⟨v1, v5⟩ := s
  simp only at k0 k1 k2 k3
  simp only [Bw_szPairS_1, W.E]
  refine gives_cond (fun h => ?_) fun h => gives_some k1
  have hlt := of_decide_eq_true h
  refine gives_bnd (P := fun x => SmallP x) (gives_getI k2 hlt fun x _ hm => g2 x hm) fun x hx => gives_bnd (g_szPair x v1 k0 (by omega) hx) fun r hr => gives_cond (fun _ => gives_some (by show (-1 : Int) ≤ l; omega)) fun hr2 => gives_some ?_
  have := of_decide_eq_false hr2
  dsimp only
  rw [wrapL _ (by omega) (by omega)]
  omega
theorem g_szReply (x : Reply) (l : Int) (h0 : 0 ≤ l) (h1 : l ≤ 1048576) (hx : SmallR x) : Gives (w_szReply x l) (fun r => r ≤ l) := by
  obtain ⟨g1, g2⟩ := hx
  simp only [w_szReply, ww_szReply, W.E]
  refine gives_bnd (g_szAsk _ _ h0 h1 g1) fun r hr => gives_cond (fun _ => gives_some (by omega)) fun h => ?_
  have := of_decide_eq_false h
  exact gives_bnd (g_szPairS _ _ (by omega) (by omega) g2) fun r2 hr2 => gives_cond (fun _ => gives_some (by omega)) fun _ => gives_some (by omega)
theorem g_szReplyS (xs : List Reply) (l : Int) (h0 : 0 ≤ l) (h1 : l ≤ 1048576) (g1 : xs.length * 152 ≤ 140737488351232) (g2 : ∀ x ∈ xs, SmallR x) : Gives (w_szReplyS xs l) (fun r => r ≤ l ∧ (0 ≤ r → (xs.length : Int) ≤ l)) := by
  simp only [w_szReplyS, ww_szReplyS, W.E]
  rw [wrapL (l - (xs.length : Int)) (by omega) (by omega)]
  refine gives_cond (fun _ => gives_some ⟨by omega, fun h => by omega⟩) fun h => ?_
  have hl := of_decide_eq_false h
  refine gives_bndS (R := fun t => match t with | .inl j => j ≤ l | .inr j => j ≤ l) (gives_loop (fun s => (0 ≤ s.v1 ∧ s.v1 ≤ l) ∧ 0 ≤ s.v5 ∧ s.v5 ≤ (xs.length : Int)) (fun s => xs.length - s.v5.toNat) (fun s ⟨⟨k0, k1⟩, k2, k3⟩ => ?_) ⟨⟨by dsimp only; omega, by dsimp only; omega⟩, by dsimp only; omega, by dsimp only; omega⟩) (fun j hj => gives_some ⟨hj, fun _ => by omega⟩) (fun t ht => ⟨ht, fun _ => by omega⟩)
  obtain ⟨v1, v5⟩ := s
  simp only at k0 k1 k2 k3
  simp only [Bw_szReplyS_1, W.E]
  refine gives_cond (fun h => ?_) fun h => gives_some k1
  have hlt := of_decide_eq_true h
  refine gives_bnd (P := fun x => SmallR x) (gives_getI k2 hlt fun x _ hm => g2 x hm) fun x hx => gives_bnd (g_szReply x v1 k0 (by omega) hx) fun r hr => gives_cond (fun _ => gives_some (by show (-1 : Int) ≤ l; omega)) fun hr2 => gives_some ?_
  have := of_decide_eq_false hr2
  dsimp only
  rw [wrapL _ (by omega) (by omega)]
  omega
theorem g_szTxS (xs : List Tx) (l : Int) (h0 : 0 ≤ l) (h1 : l ≤ 1048576) (g1 : xs.length * 24 ≤ 140737488351232) : Gives (w_szTxS xs l) (fun r => 0 ≤ r → (xs.length : Int) ≤ l) := by
  simp only [w_szTxS, ww_szTxS, W.E]
  rw [wrapL (l - (xs.length : Int)) (by omega) (by omega)]
  exact gives_cond (fun _ => gives_some fun h => by omega) fun h => gives_some fun _ => by omega

/-! ### Copies and comparisons of replies and transactions -/
theorem toTx_eq (x : Tx) : w_toTx x = some x := rfl
theorem toReply_eq (x : Reply) (hx : (x.pairs.length + 2) * 32 ≤ 140737488355328) : w_toReply x = some x := by
  simp only [w_toReply, ww_toReply, W.D, toTx_eq, toAsk_eq, toPairS_eq _ hx]
theorem toReplyS_eq (xs : List Reply) (hn : xs.length * 152 ≤ 140737488351232) (hs : ∀ x ∈ xs, SmallR x) : w_toReplyS xs = some xs := by
  have hrun := loop_run' (f := fun s => (Bw_toReplyS_1 xs s).den) (fun i => ⟨(i : Int), xs.take i ++ List.replicate (xs.length - i) (⟨0, ⟨0, 0, 0⟩, ⟨0, ⟨#[]⟩, ⟨#[]⟩, ⟨⟨#[]⟩, ⟨#[]⟩⟩, 0, false⟩, 0, []⟩ : Reply)⟩) xs.length (s0 := ⟨0, List.replicate xs.length ⟨0, ⟨0, 0, 0⟩, ⟨0, ⟨#[]⟩, ⟨#[]⟩, ⟨⟨#[]⟩, ⟨#[]⟩⟩, 0, false⟩, 0, []⟩⟩) (r := xs) (by simp) (fun k hlt => by
      have hx : (xs.take k ++ List.replicate (xs.length - k) (⟨0, ⟨0, 0, 0⟩, ⟨0, ⟨#[]⟩, ⟨#[]⟩, ⟨⟨#[]⟩, ⟨#[]⟩⟩, 0, false⟩, 0, []⟩ : Reply))[k]? = some (⟨0, ⟨0, 0, 0⟩, ⟨0, ⟨#[]⟩, ⟨#[]⟩, ⟨⟨#[]⟩, ⟨#[]⟩⟩, 0, false⟩, 0, []⟩ : Reply) := by
        rw [List.getElem?_append_right (by simp; omega), List.getElem?_replicate]
        simp
        omega
      have hsm := (hs xs[k] (List.getElem_mem hlt)).2.1
      simp only [Bw_toReplyS_1, W.D]
      rw [decide_eq_true (by omega : (k : Int) < (xs.length : Int)), cond_true, getI_at (List.getElem?_eq_getElem hlt), getI_at hx, wrapL _ (by omega) (by omega)]
      simp only [W.D, toReply_eq xs[k] (by omega), Int.toNat_natCast]
      have ht : xs.take (k + 1) = xs.take k ++ [xs[k]] := by rw [List.take_add_one, List.getElem?_eq_getElem hlt]; rfl
      rw [show xs.length - k = (xs.length - (k + 1)) + 1 by omega, List.replicate_succ, ht, List.set_append_right _ _ (by simp; omega), List.append_assoc]
      congr 4
      rw [List.length_take, Nat.min_eq_left (Nat.le_of_lt hlt), Nat.sub_self]
      rfl) (by
      simp only [Bw_toReplyS_1, W.D]
      rw [decide_eq_false (by omega), cond_false]
      simp)
  simp only [w_toReplyS, ww_toReplyS, W.D, Int.toNat_natCast]
  rw [if_pos (by omega), hrun]
  rfl
theorem toTxS_eq (xs : List Tx) (hn : xs.length * 24 ≤ 140737488351232) : w_toTxS xs = some xs := by
  have hrun := loop_run' (f := fun s => (Bw_toTxS_1 xs s).den) (fun i => ⟨(i : Int), xs.take i ++ List.replicate (xs.length - i) (⟨0, 0, 0⟩ : Tx)⟩) xs.length (s0 := ⟨0, List.replicate xs.length ⟨0, 0, 0⟩⟩) (r := xs) (by simp) (fun k hlt => by
      have hx : (xs.take k ++ List.replicate (xs.length - k) (⟨0, 0, 0⟩ : Tx))[k]? = some (⟨0, 0, 0⟩ : Tx) := by
        rw [List.getElem?_append_right (by simp; omega), List.getElem?_replicate]
        simp
        omega
      simp only [Bw_toTxS_1, W.D]
      rw [decide_eq_true (by omega : (k : Int) < (xs.length : Int)), cond_true, getI_at (List.getElem?_eq_getElem hlt), getI_at hx, wrapL _ (by omega) (by omega)]
      simp only [W.D, toTx_eq, Int.toNat_natCast]
      have ht : xs.take (k + 1) = xs.take k ++ [xs[k]] := by rw [List.take_add_one, List.getElem?_eq_getElem hlt]; rfl
      rw [show xs.length - k = (xs.length - (k + 1)) + 1 by omega, List.replicate_succ, ht, List.set_append_right _ _ (by simp; omega), List.append_assoc]
      congr 4
      rw [List.length_take, Nat.min_eq_left (Nat.le_of_lt hlt), Nat.sub_self]
      rfl) (by
      simp only [Bw_toTxS_1, W.D]
      rw [decide_eq_false (by omega), cond_false]
      simp)
  simp only [w_toTxS, ww_toTxS, W.D, Int.toNat_natCast]
  rw [if_pos (by omega), hrun]
  rfl
theorem eqTx_self (x : Tx) : w_eqTx x x = some true := by simp only [w_eqTx, ww_eqTx, W.D, bne_self_eq_false]; rfl
theorem eqAsk_self (x : Ask) : w_eqAsk x x = some true := by
  simp only [w_eqAsk, ww_eqAsk, w_eqRange, ww_eqRange, W.D, bne_self_eq_false, beq_self_eq_true, Bool.not_true, cond_false]
theorem eqReply_self (x : Reply) (hn : x.pairs.length < 9223372036854775807) : w_eqReply x x = some true := by
  simp only [w_eqReply, ww_eqReply, W.D, bne_self_eq_false, eqTx_self, eqAsk_self, eqPairS_self x.pairs hn, Bool.not_true, cond_false]
theorem eqReplyS_self (xs : List Reply) (hn : xs.length * 152 ≤ 140737488351232) (hs : ∀ x ∈ xs, SmallR x) : w_eqReplyS xs xs = some true := by
  have hrun := loop_run' (f := fun s => (Bw_eqReplyS_1 xs xs s).den) (fun i => (i : Int)) xs.length (s0 := 0) (r := .inl ()) rfl (fun k hlt => by
      have hsm := (hs xs[k] (List.getElem_mem hlt)).2.1
      simp only [Bw_eqReplyS_1, W.D]
      rw [decide_eq_true (by omega : (k : Int) < (xs.length : Int)), cond_true, getI_at (List.getElem?_eq_getElem hlt), wrapL _ (by omega) (by omega)]
      simp only [W.D, eqReply_self xs[k] (by omega)]
      rfl) (by
      simp only [Bw_eqReplyS_1, W.D]
      rw [decide_eq_false (by omega), cond_false])
  simp only [w_eqReplyS, ww_eqReplyS, W.D, bne_self_eq_false, cond_false]
  rw [hrun]
  rfl
theorem eqTxS_self (xs : List Tx) (hn : xs.length * 24 ≤ 140737488351232) : w_eqTxS xs xs = some true := by
  have hrun := loop_run' (f := fun s => (Bw_eqTxS_1 xs xs s).den) (fun i => (i : Int)) xs.length (s0 := 0) (r := .inl ()) rfl (fun k hlt => by
      simp only [Bw_eqTxS_1, W.D]
      rw [decide_eq_true (by omega : (k : Int) < (xs.length : Int)), cond_true, getI_at (List.getElem?_eq_getElem hlt), wrapL _ (by omega) (by omega)]
      simp only [W.D, eqTx_self]
      rfl) (by
      simp only [Bw_eqTxS_1, W.D]
      rw [decide_eq_false (by omega), cond_false])
  simp only [w_eqTxS, ww_eqTxS, W.D, bne_self_eq_false, cond_false]
  rw [hrun]
  rfl
end Go.Proofs.Ytagoajkiccgmjaa
namespace Go.Proofs.Ytagoajkiccgmjaa
open Go.Mv Go.RowKit

/-! ### Marks -/
set_option maxHeartbeats 4000000 in
theorem markReplyS_some (xs : List Reply) (k : Int) (h0 : 0 ≤ k) (hk : k + 8796093021964 * xs.length < 9223372036854775000) (hs : ∀ x ∈ xs, SmallR x) : Gives (w_markReplyS xs k) (fun r => r.1.length = xs.length ∧ 0 ≤ r.2 ∧ r.2 ≤ k + 8796093021964 * xs.length) := by
  simp only [w_markReplyS, ww_markReplyS, W.E]
  refine gives_bnd (P := fun j => j.w0_0.length = xs.length ∧ 0 ≤ j.v1 ∧ j.v1 ≤ k + 8796093021964 * xs.length) (gives_loop (fun s => ∃ (i : Nat), i ≤ xs.length ∧ s.v5 = (i : Int) ∧ s.w0_0.length = xs.length ∧ (∀ j, i ≤ j → s.w0_0[j]? = xs[j]?) ∧ 0 ≤ s.v1 ∧ s.v1 ≤ k + 8796093021964 * i) (fun s => xs.length - s.v5.toNat) (fun s ⟨i, hi, h5, hl, hw, h1, h2⟩ => ?_) ⟨0, by omega, rfl, rfl, fun _ _ => rfl, h0, by simp⟩) fun j hj => gives_some hj
  obtain ⟨v1, v5, w⟩ := s
  simp only at h5 hl hw h1 h2
  subst h5
  simp only [Bw_markReplyS_1, W.E, hl]
  by_cases he : i = xs.length
  · subst he
    rw [decide_eq_false (by omega), cond_false]
    exact gives_some ⟨hl, h1, h2⟩
  · have hlt : i < xs.length := by omega
    have hx : w[i]? = some xs[i] := by rw [hw i (Nat.le_refl _), List.getElem?_eq_getElem hlt]
    have hsm := (hs xs[i] (List.getElem_mem hlt)).2.1
    rw [decide_eq_true (by omega : (i : Int) < (xs.length : Int)), cond_true, getI_at hx]
    generalize xs[i] = x at hsm hx
    have hpl : x.pairs.length ≤ 4398046510976 := by omega
    have hB : v1 + 8796093021964 ≤ k + 8796093021964 * xs.length := by omega
    have hB2 : v1 + 8796093021964 < 9223372036854775000 := by omega
    have hm := markPairS_eq x.pairs (v1 + 12) (by clear hw hx hs; omega) (by clear hw hx hs; omega)
    have e1 : IntKind.wrap .i64 (v1 + 1) = v1 + 1 := wrapL _ (by omega) (by omega)
    have e2 : IntKind.wrap .i64 (v1 + 1 + 1) = v1 + 2 := by rw [wrapL _ (by omega) (by omega)]; omega
    have e3 : IntKind.wrap .i64 (v1 + 2 + 1) = v1 + 3 := by rw [wrapL _ (by omega) (by omega)]; omega
    have e4 : IntKind.wrap .i64 (v1 + 3 + 1) = v1 + 4 := by rw [wrapL _ (by omega) (by omega)]; omega
    have e5 : IntKind.wrap .i64 (v1 + 4 + 1) = v1 + 5 := by rw [wrapL _ (by omega) (by omega)]; omega
    have e6 : IntKind.wrap .i64 (v1 + 5 + 1) = v1 + 6 := by rw [wrapL _ (by omega) (by omega)]; omega
    have e7 : IntKind.wrap .i64 (v1 + 6 + 1) = v1 + 7 := by rw [wrapL _ (by omega) (by omega)]; omega
    have e8 : IntKind.wrap .i64 (v1 + 7 + 1) = v1 + 8 := by rw [wrapL _ (by omega) (by omega)]; omega
    have e9 : IntKind.wrap .i64 (v1 + 8 + 1) = v1 + 9 := by rw [wrapL _ (by omega) (by omega)]; omega
    have e10 : IntKind.wrap .i64 (v1 + 9 + 1) = v1 + 10 := by rw [wrapL _ (by omega) (by omega)]; omega
    have e11 : IntKind.wrap .i64 (v1 + 10 + 1) = v1 + 11 := by rw [wrapL _ (by omega) (by omega)]; omega
    have e12 : IntKind.wrap .i64 (v1 + 11 + 1) = v1 + 12 := by rw [wrapL _ (by omega) (by omega)]; omega
    have e13 : IntKind.wrap .i64 ((i : Int) + 1) = ((i + 1 : Nat) : Int) := by rw [wrapL _ (by omega) (by omega)]; rfl
    simp only [bnd_some, e1, e2, e3, e4, e5, e6, e7, e8, e9, e10, e11, e12, e13, mt_eq _ (show v1 + 5 < 9223372036854775808 by omega), mt_eq _ (show v1 + 6 < 9223372036854775808 by omega), mt_eq _ (show v1 + 7 < 9223372036854775808 by omega), mt_eq _ (show v1 + 8 < 9223372036854775808 by omega), W.E, hm, mks_len]
    refine gives_chk trivial (gives_some ?_)
    refine ⟨⟨i + 1, (by omega : i + 1 ≤ xs.length), ?_, ?_, fun j hj => ?_, ?_, ?_⟩, ?_⟩
    · rfl
    · rw [List.length_set]; exact hl
    · rw [Int.toNat_natCast, List.getElem?_set_ne (by omega)]
      exact hw j (by omega)
    · dsimp only; omega
    · dsimp only; omega
    · dsimp only; omega
theorem markTxS_some (xs : List Tx) (k : Int) (h0 : 0 ≤ k) (hk : k + 3 * xs.length < 9223372036854775000) : Gives (w_markTxS xs k) (fun r => r.1.length = xs.length ∧ 0 ≤ r.2) := by
  simp only [w_markTxS, ww_markTxS, W.E]
  refine gives_bnd (P := fun j => j.w0_0.length = xs.length ∧ 0 ≤ j.v1) (gives_loop (fun s => ∃ (i : Nat), i ≤ xs.length ∧ s.v5 = (i : Int) ∧ s.w0_0.length = xs.length ∧ 0 ≤ s.v1 ∧ s.v1 ≤ k + 3 * i) (fun s => xs.length - s.v5.toNat) (fun s ⟨i, hi, h5, hl, h1, h2⟩ => ?_) ⟨0, by omega, rfl, rfl, h0, by simp⟩) fun j hj => gives_some hj
  obtain ⟨v1, v5, w⟩ := s
  simp only at h5 hl h1 h2
  subst h5
  simp only [Bw_markTxS_1, W.E, hl]
  by_cases he : i = xs.length
  · subst he
    rw [decide_eq_false (by omega), cond_false]
    exact gives_some ⟨hl, h1⟩
  · have hlt : i < xs.length := by omega
    rw [decide_eq_true (by omega : (i : Int) < (xs.length : Int)), cond_true, getI_at (List.getElem?_eq_getElem (by omega : i < w.length))]
    have e1 : IntKind.wrap .i64 (v1 + 1) = v1 + 1 := wrapL _ (by omega) (by omega)
    have e2 : IntKind.wrap .i64 (v1 + 1 + 1) = v1 + 2 := by rw [wrapL _ (by omega) (by omega)]; omega
    have e3 : IntKind.wrap .i64 (v1 + 2 + 1) = v1 + 3 := by rw [wrapL _ (by omega) (by omega)]; omega
    have e13 : IntKind.wrap .i64 ((i : Int) + 1) = ((i + 1 : Nat) : Int) := by rw [wrapL _ (by omega) (by omega)]; rfl
    simp only [bnd_some, e1, e2, e3, e13, W.E]
    refine gives_some ⟨⟨i + 1, by omega, rfl, by simpa using hl, by dsimp only; omega, by dsimp only; omega⟩, by dsimp only; omega⟩

/-! ### All transactions -/
noncomputable def serR (log : List Reply) : List Tx → List Pair → Option (List Pair)
  | [], now => some now
  | x :: xs, now => bif (TxP now log x).2 then serR log xs (TxP now log x).1 else none
theorem TxP_ok {p : List Pair} {log : List Reply} {x : Tx} {K : List ByteArray} (hk : KeysIn p K) (hl : ∀ r ∈ log, r.ask.key ∈ K) (hd : dOk p = true) : KeysIn (TxP p log x).1 K ∧ dOk (TxP p log x).1 = true := by
  have h0 : dOk [] = true := (dOk_iff []).2 ⟨fun x hx => (by cases hx), fun i j x y _ h => by simp at h⟩
  unfold TxP
  rw [hd, cond_true]
  cases ht : txR x log p true with
  | none => exact ⟨fun x hx => (by cases hx), h0⟩
  | some v => exact (txR_ok hd hk hl ht).symm
theorem i_Serial_eq (log : List Reply) (xs : List Tx) (hK : (log.length + 3) * 32 ≤ 140737488355328) (hn : xs.length < 9223372036854775807) : i_Serial log xs = some (match serR log xs [] with | some v => (v, true) | none => ([], false)) := by
  have hl : ∀ r ∈ log, r.ask.key ∈ log.map (·.ask.key) := fun r hr => List.mem_map.2 ⟨r, hr, rfl⟩
  have hK' : ((log.map (·.ask.key)).length + 3) * 32 ≤ 140737488355328 := by simpa using hK
  have h0 : dOk [] = true := (dOk_iff []).2 ⟨fun x hx => (by cases hx), fun i j x y _ h => by simp at h⟩
  have := loopT_val (f := fun s => (Bi_Serial_1 log xs s).den) (fun s => some (match serR log (xs.drop s.v14.toNat) s.v6 with | some v => .inl v | none => .inr ([], false))) (fun s => (∃ k : Nat, s.v14 = k ∧ k ≤ xs.length) ∧ dOk s.v6 = true ∧ KeysIn s.v6 (log.map (·.ask.key))) (fun s => xs.length - s.v14.toNat) (fun s ⟨⟨k, g0, g1⟩, g2, g3⟩ => by
    obtain ⟨v6, v14⟩ := s
    simp only at g0 g2 g3
    subst g0
    have hlen := len_keys ((dOk_iff v6).1 g2).2 g3
    rw [List.length_map] at hlen
    by_cases he : k = xs.length
    · left
      subst he
      refine ⟨.inl v6, ?_, by simp [serR]⟩
      simp only [Bi_Serial_1, W.D]
      rw [decide_eq_false (by omega), cond_false]
    · have hlt : k < xs.length := by omega
      have hx := List.getElem?_eq_getElem hlt
      generalize xs[k] = x at hx
      simp only [Int.toNat_natCast, drop_at hx, Bi_Serial_1, W.D, serR]
      rw [decide_eq_true (by omega : (k : Int) < (xs.length : Int)), cond_true, getI_at hx, wrapL _ (by omega) (by omega)]
      simp only [W.D, i_RunTx_eq log x _ hK' (by omega) hl v6 (by omega) g3]
      have hok := TxP_ok (x := x) g3 hl g2
      cases hr : (TxP v6 log x).2 with
      | false =>
        left
        exact ⟨.inr ([], false), rfl, rfl⟩
      | true =>
        right
        exact ⟨⟨(TxP v6 log x).1, ((k + 1 : Nat) : Int)⟩, rfl, ⟨⟨k + 1, rfl, by omega⟩, hok.2, hok.1⟩, by simp; omega, by simp only [Int.toNat_natCast, cond_true]⟩) ⟨[], 0⟩ ⟨⟨0, rfl, by omega⟩, h0, fun x hx => by cases hx⟩
  simp only [i_Serial, wi_Serial, W.D]
  rw [this]
  simp only [Int.toNat_zero, List.drop_zero]
  cases serR log xs [] <;> rfl
theorem s_Serial_eq (log : List Reply) (xs : List Tx) (hK : (log.length + 3) * 32 ≤ 140737488355328) (hn : xs.length < 9223372036854775807) : s_Serial log xs = some (match serR log xs [] with | some v => (v, true) | none => ([], false)) := by
  have hl : ∀ r ∈ log, r.ask.key ∈ log.map (·.ask.key) := fun r hr => List.mem_map.2 ⟨r, hr, rfl⟩
  have hK' : ((log.map (·.ask.key)).length + 3) * 32 ≤ 140737488355328 := by simpa using hK
  have h0 : dOk [] = true := (dOk_iff []).2 ⟨fun x hx => (by cases hx), fun i j x y _ h => by simp at h⟩
  have := loopT_val (f := fun s => (Bs_Serial_1 log xs s).den) (fun s => some (match serR log (xs.drop s.v14.toNat) s.v6 with | some v => .inl v | none => .inr ([], false))) (fun s => (∃ k : Nat, s.v14 = k ∧ k ≤ xs.length) ∧ dOk s.v6 = true ∧ KeysIn s.v6 (log.map (·.ask.key))) (fun s => xs.length - s.v14.toNat) (fun s ⟨⟨k, g0, g1⟩, g2, g3⟩ => by
    obtain ⟨v6, v14⟩ := s
    simp only at g0 g2 g3
    subst g0
    have hlen := len_keys ((dOk_iff v6).1 g2).2 g3
    rw [List.length_map] at hlen
    by_cases he : k = xs.length
    · left
      subst he
      refine ⟨.inl v6, ?_, by simp [serR]⟩
      simp only [Bs_Serial_1, W.D]
      rw [decide_eq_false (by omega), cond_false]
    · have hlt : k < xs.length := by omega
      have hx := List.getElem?_eq_getElem hlt
      generalize xs[k] = x at hx
      simp only [Int.toNat_natCast, drop_at hx, Bs_Serial_1, W.D, serR]
      rw [decide_eq_true (by omega : (k : Int) < (xs.length : Int)), cond_true, getI_at hx, wrapL _ (by omega) (by omega)]
      simp only [W.D, s_RunTx_eq log x _ hK' (by omega) hl v6 (by omega) g3]
      have hok := TxP_ok (x := x) g3 hl g2
      cases hr : (TxP v6 log x).2 with
      | false =>
        left
        exact ⟨.inr ([], false), rfl, rfl⟩
      | true =>
        right
        exact ⟨⟨(TxP v6 log x).1, ((k + 1 : Nat) : Int)⟩, rfl, ⟨⟨k + 1, rfl, by omega⟩, hok.2, hok.1⟩, by simp; omega, by simp only [Int.toNat_natCast, cond_true]⟩) ⟨[], 0⟩ ⟨⟨0, rfl, by omega⟩, h0, fun x hx => by cases hx⟩
  simp only [s_Serial, ws_Serial, W.D]
  rw [this]
  simp only [Int.toNat_zero, List.drop_zero]
  cases serR log xs [] <;> rfl
end Go.Proofs.Ytagoajkiccgmjaa
namespace Go.Proofs.Ytagoajkiccgmjaa
open Go.Mv Go.RowKit

theorem TxP_len (p : List Pair) (log : List Reply) (x : Tx) : (TxP p log x).1.length ≤ p.length + log.length := by
  cases hd : dOk p with
  | false => unfold TxP; rw [hd]; simp
  | true =>
    have h1 : KeysIn p (p.map (·.key) ++ log.map (·.ask.key)) := fun y hy => List.mem_append.2 (.inl (List.mem_map.2 ⟨y, hy, rfl⟩))
    have h2 : ∀ r ∈ log, r.ask.key ∈ p.map (·.key) ++ log.map (·.ask.key) := fun r hr => List.mem_append.2 (.inr (List.mem_map.2 ⟨r, hr, rfl⟩))
    obtain ⟨h3, h4⟩ := TxP_ok (x := x) h1 h2 hd
    have := len_keys ((dOk_iff _).1 h4).2 h3
    simpa using this
set_option maxHeartbeats 2000000 in
/-- THE PLAIN LAW. -/
theorem law_RunTx (p : List Pair) (log : List Reply) (x : Tx) (hp : SmallL p) (hl : log.length * 152 ≤ 140737488351232) (hs : ∀ r ∈ log, SmallR r) : w_FnExactRunTx p log x = some true := by
  obtain ⟨r1, e1, g1, g2⟩ := g_szPairS p 1048576 (by omega) (by omega) hp
  simp only [w_FnExactRunTx, ww_FnExactRunTx, W.D, e1]
  by_cases h1 : r1 < 0
  · rw [decide_eq_true h1]; rfl
  rw [decide_eq_false h1, cond_false]
  have hpl := g2 (by omega)
  obtain ⟨r2, e2, g3, g4⟩ := g_szReplyS log r1 (by omega) (by omega) hl hs
  simp only [W.D, e2]
  by_cases h2 : r2 < 0
  · rw [decide_eq_true h2]; rfl
  rw [decide_eq_false h2, cond_false]
  have hll := g4 (by omega)
  have hk1 : KeysIn p (p.map (·.key) ++ log.map (·.ask.key)) := fun y hy => List.mem_append.2 (.inl (List.mem_map.2 ⟨y, hy, rfl⟩))
  have hk2 : ∀ r ∈ log, r.ask.key ∈ p.map (·.key) ++ log.map (·.ask.key) := fun r hr => List.mem_append.2 (.inr (List.mem_map.2 ⟨r, hr, rfl⟩))
  have hK : ((p.map (·.key) ++ log.map (·.ask.key)).length + 3) * 32 ≤ 140737488355328 := by simp only [List.length_append, List.length_map]; omega
  have i1 := i_RunTx_eq log x _ hK (by omega) hk2 p (by omega) hk1
  have i2 := s_RunTx_eq log x _ hK (by omega) hk2 p (by omega) hk1
  have hlen := TxP_len p log x
  have m0 := markPairS_eq p 1 (by omega) (by omega)
  obtain ⟨mr, m1, m2, m3, _⟩ := markReplyS_some log (1 + 2 * (p.length : Int)) (by omega) (by omega) hs
  have m4 := markPairS_eq (TxP p log x).1 1 (by omega) (by omega)
  have d1 := heldPairS_eq (TxP p log x).1.length 1 (by omega) (by omega)
  simp only [W.D, toPairS_eq p (by omega), toReplyS_eq log hl hs, toTx_eq, i1, i2, eqPairS_self p (by omega), eqPairS_self (TxP p log x).1 (by omega), eqReplyS_self log hl hs, m0, m1, m2, m4, mks_len, d1, if_true, Bool.not_true, cond_false, beq_self_eq_true, bne_self_eq_false]
  rw [decide_eq_false (by omega : ¬ mr.2 < 0), decide_eq_false (by omega : ¬ 1 + 2 * ((TxP p log x).1.length : Int) < 0)]
  rfl
theorem serR_len {log : List Reply} : ∀ {xs : List Tx} {now v : List Pair}, dOk now = true → KeysIn now (log.map (·.ask.key)) → serR log xs now = some v → v.length ≤ log.length
  | [], now, v, h1, h2, h => by
    cases h
    have := len_keys ((dOk_iff _).1 h1).2 h2
    simpa using this
  | x :: xs, now, v, h1, h2, h => by
    unfold serR at h
    have hl : ∀ r ∈ log, r.ask.key ∈ log.map (·.ask.key) := fun r hr => List.mem_map.2 ⟨r, hr, rfl⟩
    obtain ⟨h3, h4⟩ := TxP_ok (x := x) h2 hl h1
    cases hr : (TxP now log x).2 with
    | false => rw [hr] at h; cases h
    | true => rw [hr] at h; exact serR_len h4 h3 h
noncomputable def SerP (log : List Reply) (xs : List Tx) : List Pair × Bool := match serR log xs [] with | some v => (v, true) | none => ([], false)
theorem SerP_len (log : List Reply) (xs : List Tx) : (SerP log xs).1.length ≤ log.length := by
  have h0 : dOk [] = true := (dOk_iff []).2 ⟨fun x hx => (by cases hx), fun i j x y _ h => by simp at h⟩
  unfold SerP
  cases h : serR log xs [] with
  | none => simp
  | some v => exact serR_len h0 (fun x hx => (by cases hx)) h
set_option maxHeartbeats 2000000 in
/-- THE PLAIN LAW. -/
theorem law_Serial (log : List Reply) (xs : List Tx) (hl : log.length * 152 ≤ 140737488351232) (hs : ∀ r ∈ log, SmallR r) (hx : xs.length * 24 ≤ 140737488351232) : w_FnExactSerial log xs = some true := by
  obtain ⟨r1, e1, g1, g2⟩ := g_szReplyS log 1048576 (by omega) (by omega) hl hs
  simp only [w_FnExactSerial, ww_FnExactSerial, W.D, e1]
  by_cases h1 : r1 < 0
  · rw [decide_eq_true h1]; rfl
  rw [decide_eq_false h1, cond_false]
  have hll := g2 (by omega)
  obtain ⟨r2, e2, g4⟩ := g_szTxS xs r1 (by omega) (by omega) hx
  simp only [W.D, e2]
  by_cases h2 : r2 < 0
  · rw [decide_eq_true h2]; rfl
  rw [decide_eq_false h2, cond_false]
  have hxl := g4 (by omega)
  have i1 : i_Serial log xs = some (SerP log xs) := i_Serial_eq log xs (by omega) (by omega)
  have i2 : s_Serial log xs = some (SerP log xs) := s_Serial_eq log xs (by omega) (by omega)
  have hlen := SerP_len log xs
  obtain ⟨mr, m1, m2, m3, m5⟩ := markReplyS_some log 1 (by omega) (by omega) hs
  obtain ⟨mt, n1, n2, n3⟩ := markTxS_some xs mr.2 (by omega) (by omega)
  have m4 := markPairS_eq (SerP log xs).1 1 (by omega) (by omega)
  have d1 := heldPairS_eq (SerP log xs).1.length 1 (by omega) (by omega)
  simp only [W.D, toReplyS_eq log hl hs, toTxS_eq xs hx, i1, i2, eqPairS_self (SerP log xs).1 (by omega), eqReplyS_self log hl hs, eqTxS_self xs hx, m1, m2, n1, n2, m4, mks_len, d1, if_true, Bool.not_true, cond_false, beq_self_eq_true, bne_self_eq_false]
  rw [decide_eq_false (by omega : ¬ mt.2 < 0), decide_eq_false (by omega : ¬ 1 + 2 * ((SerP log xs).1.length : Int) < 0)]
  rfl
theorem ok_RunTx (p : List Pair) (log : List Reply) (x : Tx) (hp : SmallL p) (hl : log.length * 152 ≤ 140737488351232) (hs : ∀ r ∈ log, SmallR r) : CallOK Try.prog 6 [lV 2 ePair p, lV 13 eReply log, .agg [.c (iC x.c), .c (iC x.e), .c (iC x.n)]] (bV true) [] :=
  k_w_FnExactRunTx p log x true (law_RunTx p log x hp hl hs)
theorem ok_Serial (log : List Reply) (xs : List Tx) (hl : log.length * 152 ≤ 140737488351232) (hs : ∀ r ∈ log, SmallR r) (hx : xs.length * 24 ≤ 140737488351232) : CallOK Try.prog 7 [lV 13 eReply log, lV 3 eTx xs] (bV true) [] :=
  k_w_FnExactSerial log xs true (law_Serial log xs hl hs hx)
end Go.Proofs.Ytagoajkiccgmjaa
