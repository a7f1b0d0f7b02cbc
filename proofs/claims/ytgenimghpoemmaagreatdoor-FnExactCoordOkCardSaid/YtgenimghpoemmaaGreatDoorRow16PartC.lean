/- What functions of the given program compute, each proved once, for the law that is proved in YtgenimghpoemmaaGreatDoorRow16: whatever their arguments, under the conditions that each theorem names. -/
import Derived.Test.YtgenimghpoemmaaGreatDoorRow16PartB
set_option linter.unusedVariables false
set_option linter.unusedSimpArgs false
namespace Go.Proofs.YtgenimghpoemmaaGreatDoor
open Go.Mv Go.RowKit
noncomputable section
theorem FJ {b : List Int} {a n e : Int} (hb : aJ b) (hl : b.length <= 1048576) (ha : a <= 1048576) (h : gv b a = (n, e)) (he : 0 <= e) : fY ⟨b, a, false⟩ = some (⟨b, e, false⟩, n) := by
 simp only [fY, oV, W.D]
 rw [sX b a hb hl ha, h]
 simp only [W.D]
 rw [decide_eq_false (by omega)]
 rfl
theorem IT {b : List Int} {a e : Int} {s : ByteArray} (hb : aJ b) (hl : b.length <= 1048576) (ha : a <= 1048576) (h : gt b a = (s, e)) (he : 0 <= e) : fy ⟨b, a, false⟩ = some (⟨b, e, false⟩, s) := by
 simp only [fy, mv, W.D]
 rw [ym b a hb hl ha, h]
 simp only [W.D]
 rw [decide_eq_false (by omega)]
 rfl
theorem AM {b : List Int} {a : Int} {bad : Bool} (hb : aJ b) (hl : b.length = 512) (ha : a <= 512) : ∃ a' bad' n, fY ⟨b, a, bad⟩ = some (⟨b, a', bad'⟩, n) /\ a' <= 512 := by
 simp only [fY, oV, W.D]
 rw [sX b a hb (by omega) (by omega)]
 have hv := ow (a := a) hb
 simp only [W.D]
 cases bad with
 | true => exact ⟨_, _, _, rfl, ha⟩
 | false =>
  by_cases h : (gv b a).2 < 0
  ·rw [decide_eq_true h]; exact ⟨_, _, _, rfl, ha⟩
  ·rw [decide_eq_false h]; exact ⟨_, _, _, rfl, by omega⟩
theorem DV {b : List Int} {a : Int} {bad : Bool} (hb : aJ b) (hl : b.length = 512) (ha : a <= 512) : ∃ a' bad' s, fy ⟨b, a, bad⟩ = some (⟨b, a', bad'⟩, s) /\ a' <= 512 := by
 simp only [fy, mv, W.D]
 rw [ym b a hb (by omega) (by omega)]
 have hv := Fz (a := a) hb
 simp only [W.D]
 cases bad with
 | true => exact ⟨_, _, _, rfl, ha⟩
 | false =>
  by_cases h : (gt b a).2 < 0
  ·rw [decide_eq_true h]; exact ⟨_, _, _, rfl, ha⟩
  ·rw [decide_eq_false h]; exact ⟨_, _, _, rfl, by omega⟩
theorem PD {b : List Int} {a : Int} (hb : aJ b) (hl : b.length = 512) (ha : a <= 512) : ∃ a' bad' n, il ⟨b, a, false⟩ 4 = some (⟨b, a', bad'⟩, n) /\ a' <= 512 /\ n <= 4 := by
 obtain ⟨a', bad', n, e, h⟩ := AM (bad := false) hb hl ha
 simp only [il, mu, W.D]
 rw [e]
 simp only [W.D]
 by_cases hn : n > 4
 ·rw [decide_eq_true hn]; exact ⟨_, _, _, rfl, h, by omega⟩
 ·rw [decide_eq_false hn]
  cases bad' with
  | true => exact ⟨_, _, _, rfl, h, by omega⟩
  | false => exact ⟨_, _, _, rfl, h, by omega⟩
theorem Sd {b : List Int} {a n e : Int} (hb : aJ b) (hl : b.length <= 1048576) (ha : a <= 1048576) (h : gv b a = (n, e)) (he : 0 <= e) (hn : n <= 4) : il ⟨b, a, false⟩ 4 = some (⟨b, e, false⟩, n) := by
 simp only [il, mu, W.D]
 rw [FJ hb hl ha h he]
 simp only [W.D]
 rw [decide_eq_false (by omega)]
 rfl
theorem Sc (y : ch) (hp : dc y \/ db y) (sc : Scan) : aV (fun s => (cD (pgF y) (sc, (y.keys.length : Int)) s).den) ⟨0, [], [], y.kids.take 1, pgF y, ((cZ y 0).length : Int), false⟩ = some ⟨y.keys, y.vals, y.kids, pgF y, ((cZ y y.keys.length).length : Int), false⟩ := by
 have hn := jI hp
 have hb := JZ hp
 have hl := GI hp
 refine bI (f := fun s => (cD (pgF y) (sc, (y.keys.length : Int)) s).den) (fun i : Nat => ⟨(i : Int), y.keys.take i, y.vals.take i, y.kids.take (i + 1), pgF y, ((cZ y i).length : Int), false⟩) y.keys.length (by simp) (fun k hk => ?_) ?_
 ·have hpl := rA hp k
  simp only [cD, W.D]
  rw [decide_eq_true (by omega : (k : Int) < (y.keys.length : Int))]
  simp only [cond_true, W.D]
  rw [IT hb (by omega) (by omega) (rd_key hp hk) (by omega)]
  simp only [W.D]
  have ht : (y.keys.take k).length <= 4 := by rw [List.length_take]; omega
  rw [if_pos (by simp only [List.length_cons, List.length_nil]; omega), aR hk, an _ (by omega) (by omega)]
  have hk1 : (jx y.keys[k]).length <= 17 := by
   have : y.keys[k].size <= 16 := by rcases hp with h | h <;> exact h.2.2.2.1 _ (List.getElem_mem hk)
   rw [dh (by omega)]; omega
  rcases hp with h | h
  ·have hkv : k < y.vals.length := by have := h.2.2.1; omega
   have ht2 : (y.vals.take k).length <= 4 := by rw [List.length_take]; omega
   rw [Vd h]
   simp only [W.D]
   rw [show ((76 : Int) == 66) = false from rfl, cond_false, IT hb (by omega) (by omega) (rd_val h hk) (by omega)]
   simp only [W.D]
   rw [if_pos (by simp only [List.length_cons, List.length_nil]; omega), aR hkv, h.1]
   simp only [W.D, List.take_nil]
   rfl
  ·have hkv : k + 1 < y.kids.length := by have := h.2.1; omega
   have ht2 : (y.kids.take (k + 1)).length <= 4 := by rw [List.length_take]; omega
   rw [Vc h]
   simp only [W.D]
   rw [show ((66 : Int) == 66) = true from rfl, cond_true, FJ hb (by omega) (by omega) (Wb h hk) (by omega)]
   simp only [W.D]
   rw [if_pos (by simp only [List.length_cons, List.length_nil]; omega), aR hkv, h.2.2.1]
   simp only [W.D, List.take_nil]
   rfl
 ·simp only [cD, W.D]
  rw [decide_eq_false (by omega : ¬ (y.keys.length : Int) < (y.keys.length : Int))]
  simp only [cond_false, W.D]
  rw [List.take_length]
  rcases hp with h | h
  ·rw [h.1, List.take_of_length_le (by have := h.2.2.1; omega), List.take_nil]
  ·rw [h.2.2.1, List.take_of_length_le (by have := h.2.1; omega : y.kids.length <= y.keys.length + 1), List.take_nil]
theorem Sb (b : List Int) (hb : aJ b) (hl : b.length = 512) (sc : Scan) (n a : Int) (cs : List Int) (bad : Bool) (hn : n <= 4) (ha : a <= 512) (hc : cs.length <= 1) :
  ∃ j, aV (fun s => (cD b (sc, n) s).den) ⟨0, [], [], cs, b, a, bad⟩ = some j /\ (j.jK.length <= 5 /\ j.gY.length <= 5 /\ j.eL.length <= 6) :=
 iW (f := fun s => (cD b (sc, n) s).den) (fun j : gJ => j.jK.length <= 5 /\ j.gY.length <= 5 /\ j.eL.length <= 6)
  (fun s : et => (0 <= s.v34 /\ s.v34 <= 5) /\ s.iE <= 512 /\ s.iD = b /\ (s.jK.length : Int) <= s.v34 /\ (s.gY.length : Int) <= s.v34 /\ (s.eL.length : Int) <= s.v34 + 1) (fun s => (5 - s.v34).toNat) (fun s hs => by
   obtain ⟨v9, ks, vs, cs, b', v6, bd⟩ := s
   obtain ⟨⟨a1, a2⟩, a3, a0, a4, a5, a6⟩ := hs
   simp only at a0 a1 a2 a3 a4 a5 a6
   subst a0
   have g0 : aB b' 0 = some (b'[0]'(by omega)) := by rw [show (0 : Int) = ((0 : Nat) : Int) from rfl, gO, List.getElem?_eq_getElem (by omega)]
   simp only [cD, W.D]
   by_cases c1 : v9 < n
   case neg => left; rw [decide_eq_false c1]; exact ⟨_, rfl, by simp only; omega, by simp only; omega, by simp only; omega⟩
   right
   rw [decide_eq_true c1]
   simp only [cond_true, W.D]
   obtain ⟨e1, bd1, s1, h1, h2⟩ := DV (bad := bd) hb hl a3
   rw [h1]
   simp only [W.D]
   rw [if_pos (by simp only [List.length_cons, List.length_nil]; omega), g0, an _ (by omega) (by omega)]
   simp only [W.D]
   by_cases c4 : b'[0]'(by omega) = 66
   ·obtain ⟨e2, bd2, s2, h3, h4⟩ := AM (bad := bd1) hb hl h2
    rw [show ((b'[0]'(by omega)) == 66) = true from beq_iff_eq.2 c4, cond_true, h3]
    simp only [W.D]
    rw [if_pos (by simp only [List.length_cons, List.length_nil]; omega)]
    refine ⟨_, rfl, ⟨⟨?_, ?_⟩, h4, rfl, ?_, ?_, ?_⟩, ?_⟩ <;> simp only [List.length_append, List.length_cons, List.length_nil] <;> omega
   ·obtain ⟨e2, bd2, s2, h3, h4⟩ := DV (bad := bd1) hb hl h2
    rw [show ((b'[0]'(by omega)) == 66) = false from beq_eq_false_iff_ne.2 c4, cond_false, h3]
    simp only [W.D]
    rw [if_pos (by simp only [List.length_cons, List.length_nil]; omega)]
    refine ⟨_, rfl, ⟨⟨?_, ?_⟩, h4, rfl, ?_, ?_, ?_⟩, ?_⟩ <;> simp only [List.length_append, List.length_cons, List.length_nil] <;> omega)
  ⟨0, [], [], cs, b, a, bad⟩ ⟨⟨by simp, by simp⟩, by simp only; omega, rfl, by simp, by simp, by simp only; omega⟩
def sn (b : List Int) : ch × Bool :=
 open Classical in if h : ∃ y, Eu y = true /\ pgF y = b then (Classical.choose h, true) else (⟨[], [], []⟩, false)
theorem zn {b : List Int} (h : ∀ y, Eu y = true -> pgF y ≠ b) : sn b = (⟨[], [], []⟩, false) := by
 unfold sn
 rw [dif_neg (by rintro ⟨y, h1, h2⟩; exact h y h1 h2)]
theorem GG {b : List Int} {p : ch} (h : sn b = (p, true)) : Eu p = true /\ pgF p = b := by
 unfold sn at h
 split at h
 ·rename_i g
  have := Classical.choose_spec g
  simp only [Prod.mk.injEq, and_true] at h
  rwa [h] at this
 ·simp at h
theorem Ae {b : List Int} {y : ch} (hb : aJ b) (hp : dc y \/ db y) : ((strOfNums (pgF y)).toList == (strOfNums b).toList) = decide (pgF y = b) := TB (JZ hp) hb
theorem vp (b : List Int) (hb : aJ b) (hl : b.length <= 1048576) : rJ b = some (sn b) := by
 simp only [rJ, tJ, W.D]
 by_cases h5 : b.length = 512
 case neg =>
  rw [show ((b.length : Int) != 512) = true by simp; omega, zn (fun y hy he => h5 (by rw [<- he]; exact GI (df hy)))]
  rfl
 have g0 : aB b 0 = some (b[0]'(by omega)) := by rw [show (0 : Int) = ((0 : Nat) : Int) from rfl, gO, List.getElem?_eq_getElem (by omega)]
 rw [show ((b.length : Int) != 512) = false by simp [h5]]
 by_cases hy : ∃ y, Eu y = true /\ pgF y = b
 ·have hR : sn b = (Classical.choose hy, true) := by unfold sn; exact dif_pos hy
  obtain ⟨hok, he⟩ := Classical.choose_spec hy
  generalize Classical.choose hy = y at hR hok he
  subst he
  have hp := df hok
  have hn := jI hp
  have hrd := Tk y hp
  rw [hR]
  rcases hp with h | h
  ·have e0 : ((cZ y 0).length : Int) = 2 := by
    have : cZ y 0 = jq y := by simp [cZ]
    rw [this, uv h, List.length_append, ek (by omega)]; rfl
   rw [h.1, List.take_nil, e0] at hrd
   rw [Vd h]
   simp only [cond_false, W.D]
   rw [show ((76 : Int) != 76) = false from rfl]
   simp only [cond_false, W.D]
   rw [dC _ _ hb hl (by omega), Zr (.inl h)]
   simp only [W.D]
   rw [show ((76 : Int) == 66) = false from rfl]
   simp only [cond_false, W.D]
   rw [hrd]
   simp only [W.D]
   have hyy : (⟨y.keys, y.vals, []⟩ : ch) = y := by have := h.1; cases y; simp only at this; rw [this]
   rw [hyy, mB _ (by omega) (by have := h.2.2.1; omega) (by rw [h.1]; simp)]
   simp only [W.D, pgP, hok, if_true, Bool.not_true, cond_false]
   simp only [jw, kz, W.D]
   rw [if_pos (show ∀ n ∈ pgF y, 0 <= n /\ n < 256 from hb), if_pos (show ∀ n ∈ pgF y, 0 <= n /\ n < 256 from hb), Ae hb (.inl h), decide_eq_true rfl]
   rfl
  ·rw [Vc h]
   simp only [cond_false, W.D]
   rw [show ((66 : Int) != 76) = true from rfl]
   simp only [cond_true, W.D]
   rw [show ((66 : Int) != 66) = false from rfl, cond_false, dC _ _ hb hl (by omega), Zr (.inr h)]
   simp only [W.D]
   rw [show ((66 : Int) == 66) = true from rfl]
   simp only [cond_true, W.D]
   rw [decide_eq_true (by omega : (2 : Int) >= 0)]
   simp only [cond_true, W.D]
   rw [dC _ _ hb hl (by omega), YC h]
   simp only [W.D]
   have e1 : y.kids.take 1 = [y.kids[0]'(UL h)] := by
    have := aR (UL h)
    rw [List.take_zero, List.nil_append] at this
    exact this.symm
   rw [e1] at hrd
   rw [hrd]
   simp only [W.D]
   have hyy : (⟨y.keys, y.vals, y.kids⟩ : ch) = y := rfl
   rw [hyy, mB _ (by omega) (by rw [h.2.2.1]; simp) (by have := h.1; omega)]
   simp only [W.D, pgP, hok, if_true, Bool.not_true, cond_false]
   simp only [jw, kz, W.D]
   rw [if_pos (show ∀ n ∈ pgF y, 0 <= n /\ n < 256 from hb), if_pos (show ∀ n ∈ pgF y, 0 <= n /\ n < 256 from hb), Ae hb (.inr h), decide_eq_true rfl]
   rfl
 ·have hno : ∀ y, Eu y = true -> pgF y ≠ b := fun y h1 h2 => hy ⟨y, h1, h2⟩
  rw [zn hno, g0]
  have fin : ∀ (r : Int × Int) (a : Int) (cs : List Int), a <= 512 -> cs.length <= 1 -> (bnd (aV (fun s => (cE b r s).den) ⟨a, 0, [], [], cs⟩) fun j => bnd (lf ⟨j.aM, j.bn, j.dt⟩) fun r6 =>
    bnd (bif !r6.2 then some true else bnd (jw r6.1 b) fun r7 => some (!r7)) fun j7 => some (bif j7 then ((⟨[], [], []⟩ : ch), false) else (⟨j.aM, j.bn, j.dt⟩, true))) = some (⟨[], [], []⟩, false) := by
   intro r a cs ha hc
   obtain ⟨j, hj, l1, l2, l3⟩ := Tj b hb h5 r a cs ha hc
   rw [hj]
   simp only [W.D]
   rw [mB _ (by simp only; omega) (by simp only; omega) (by simp only; omega)]
   simp only [W.D, pgP]
   cases hok : Eu ⟨j.aM, j.bn, j.dt⟩ with
   | false => rfl
   | true =>
    have hp := df hok
    simp only [cond_true, Bool.not_true, cond_false, jw, kz, W.D]
    rw [if_pos (show ∀ n ∈ pgF ⟨j.aM, j.bn, j.dt⟩, 0 <= n /\ n < 256 from JZ hp), if_pos (show ∀ n ∈ b, 0 <= n /\ n < 256 from hb), Ae hb hp, decide_eq_false (hno _ hok)]
    rfl
  have hv := ow (a := 1) hb
  have hv2 := ow (a := (gv b 1).2) hb
  simp only [cond_false, W.D]
  by_cases c1 : b[0]'(by omega) = 76
  ·rw [show ((b[0]'(by omega)) != 76) = false by rw [bne_eq_false_iff_eq]; exact c1]
   simp only [cond_false, W.D]
   rw [dC _ _ hb hl (by omega)]
   simp only [W.D]
   rw [show ((b[0]'(by omega)) == 66) = false by rw [beq_eq_false_iff_ne]; omega]
   simp only [cond_false, W.D]
   exact fin _ _ _ (by omega) (by simp)
  ·rw [show ((b[0]'(by omega)) != 76) = true by rw [bne_iff_ne]; exact c1]
   simp only [cond_true, W.D]
   by_cases c2 : b[0]'(by omega) = 66
   ·rw [show ((b[0]'(by omega)) != 66) = false by rw [bne_eq_false_iff_eq]; exact c2]
    simp only [cond_false, W.D]
    rw [dC _ _ hb hl (by omega)]
    simp only [W.D]
    rw [show ((b[0]'(by omega)) == 66) = true from beq_iff_eq.2 c2]
    simp only [cond_true, W.D]
    by_cases c3 : (gv b 1).2 >= 0
    ·rw [decide_eq_true c3]
     simp only [cond_true, W.D]
     rw [dC _ _ hb hl (by omega)]
     simp only [W.D]
     exact fin _ _ _ (by omega) (by simp)
    ·rw [decide_eq_false c3]
     simp only [cond_false, W.D]
     exact fin _ _ _ (by omega) (by simp)
   ·rw [show ((b[0]'(by omega)) != 66) = true by rw [bne_iff_ne]; exact c2]
    rfl
theorem FF (b : List Int) (hb : aJ b) (hl : b.length <= 1048576) : ri b = some (sn b) := by
 simp only [ri, tB, W.D]
 by_cases h5 : b.length = 512
 case neg =>
  rw [show ((b.length : Int) != 512) = true by simp; omega, zn (fun y hy he => h5 (by rw [<- he]; exact GI (df hy)))]
  rfl
 have g0 : aB b 0 = some (b[0]'(by omega)) := by rw [show (0 : Int) = ((0 : Nat) : Int) from rfl, gO, List.getElem?_eq_getElem (by omega)]
 rw [show ((b.length : Int) != 512) = false by simp [h5]]
 simp only [cond_false, W.D]
 by_cases hy : ∃ y, Eu y = true /\ pgF y = b
 ·have hR : sn b = (Classical.choose hy, true) := by unfold sn; exact dif_pos hy
  obtain ⟨hok, he⟩ := Classical.choose_spec hy
  generalize Classical.choose hy = y at hR hok he
  subst he
  have hp := df hok
  have hn := jI hp
  have hrd := Sc y hp
  rw [hR, Sd hb hl (by omega) (Zr hp) (by omega) (by omega)]
  simp only [W.D]
  rcases hp with h | h
  ·have e0 : ((cZ y 0).length : Int) = 2 := by
    have : cZ y 0 = jq y := by simp [cZ]
    rw [this, uv h, List.length_append, ek (by omega)]; rfl
   rw [h.1, List.take_nil, e0] at hrd
   rw [Vd h]
   simp only [W.D]
   rw [show ((76 : Int) == 66) = false from rfl]
   simp only [cond_false, W.D]
   rw [hrd]
   simp only [W.D]
   have hyy : (⟨y.keys, y.vals, []⟩ : ch) = y := by have := h.1; cases y; simp only at this; rw [this]
   rw [hyy, my _ (by omega) (by have := h.2.2.1; omega) (by rw [h.1]; simp)]
   simp only [W.D, pgP, hok, if_true, Bool.not_true, cond_false]
   rw [if_pos (show ∀ n ∈ pgF y, 0 <= n /\ n < 256 from hb), if_pos (show ∀ n ∈ pgF y, 0 <= n /\ n < 256 from hb), Ae hb (.inl h), decide_eq_true rfl]
   rfl
  ·rw [Vc h]
   simp only [W.D]
   rw [show ((66 : Int) == 66) = true from rfl]
   simp only [cond_true, W.D]
   rw [FJ hb hl (by omega) (YC h) (by omega)]
   simp only [W.D]
   have e1 : y.kids.take 1 = [y.kids[0]'(UL h)] := by
    have := aR (UL h)
    rw [List.take_zero, List.nil_append] at this
    exact this.symm
   rw [e1] at hrd
   rw [hrd]
   simp only [W.D]
   have hyy : (⟨y.keys, y.vals, y.kids⟩ : ch) = y := rfl
   rw [hyy, my _ (by omega) (by rw [h.2.2.1]; simp) (by have := h.1; omega)]
   simp only [W.D, pgP, hok, if_true, Bool.not_true, cond_false]
   rw [if_pos (show ∀ n ∈ pgF y, 0 <= n /\ n < 256 from hb), if_pos (show ∀ n ∈ pgF y, 0 <= n /\ n < 256 from hb), Ae hb (.inr h), decide_eq_true rfl]
   rfl
 ·have hno : ∀ y, Eu y = true -> pgF y ≠ b := fun y h1 h2 => hy ⟨y, h1, h2⟩
  rw [zn hno]
  obtain ⟨a1, bd1, n, e1, h1, hn⟩ := PD (a := 1) hb h5 (by omega)
  rw [e1, g0]
  simp only [W.D]
  have fin : ∀ (a : Int) (cs : List Int) (bad : Bool), a <= 512 -> cs.length <= 1 -> ∃ j, aV (fun s => (cD b (⟨b, a1, bd1⟩, n) s).den) ⟨0, [], [], cs, b, a, bad⟩ = some j /\
    ∃ t, kQ ⟨j.jK, j.gY, j.eL⟩ = some t /\ (t.2 = false \/ aJ t.1 /\ t.1 ≠ b) := by
   intro a cs bad ha hc
   obtain ⟨j, hj, l1, l2, l3⟩ := Sb b hb h5 ⟨b, a1, bd1⟩ n a cs bad hn ha hc
   refine ⟨j, hj, _, my _ (by simp only; omega) (by simp only; omega) (by simp only; omega), ?_⟩
   unfold pgP
   cases hok : Eu ⟨j.jK, j.gY, j.eL⟩ with
   | false => exact .inl rfl
   | true => exact .inr ⟨JZ (df hok), hno _ hok⟩
  have fin2 : ∀ (j : gJ) (t : List Int × Bool), (t.2 = false \/ aJ t.1 /\ t.1 ≠ b) -> (bif j.fG then some true else bif !t.2 then some true else if ∀ n ∈ t.1, 0 <= n /\ n < 256 then if ∀ n ∈ b, 0 <= n /\ n < 256 then some (!((strOfNums t.1).toList == (strOfNums b).toList)) else none else none) = some true := by
   intro j t ht
   cases j.fG with
   | true => rfl
   | false =>
    rcases ht with ht | ⟨ht, hne⟩
    ·rw [ht]; rfl
    ·rw [if_pos (show ∀ n ∈ t.1, 0 <= n /\ n < 256 from ht), if_pos (show ∀ n ∈ b, 0 <= n /\ n < 256 from hb), TB ht hb, decide_eq_false hne]
     cases t.2 <;> rfl
  by_cases c4 : b[0]'(by omega) = 66
  ·rw [show ((b[0]'(by omega)) == 66) = true from beq_iff_eq.2 c4]
   simp only [cond_true, W.D]
   obtain ⟨a2, bd2, n2, e2, h2⟩ := AM (bad := bd1) hb h5 h1
   rw [e2]
   simp only [W.D]
   obtain ⟨j, hj, t, h3, h4⟩ := fin a2 [n2] bd2 h2 (by simp)
   rw [hj]
   simp only [W.D]
   rw [h3]
   simp only [W.D]
   rw [fin2 j t h4]
   rfl
  ·rw [show ((b[0]'(by omega)) == 66) = false from beq_eq_false_iff_ne.2 c4]
   simp only [cond_false, W.D]
   obtain ⟨j, hj, t, h3, h4⟩ := fin a1 [] bd1 h1 (by simp)
   rw [hj]
   simp only [W.D]
   rw [h3]
   simp only [W.D]
   rw [fin2 j t h4]
   rfl
def Opt (d : Bool) {α : Type} (o : Option α) (v : α) : Prop := o = some v \/ (d = false /\ o = none)
theorem Opt.val {d : Bool} {α : Type} {o : Option α} {v : α} (h : o = some v) : Opt d o v := .inl h
theorem Opt.bnd {d : Bool} {α β : Type} {o : Option α} {v : α} {k : α -> Option β} {w : β} (h : Opt d o v) (hk : Opt d (k v) w) : Opt d (Mv.bnd o k) w := by
 rcases h with h | ⟨h, h2⟩
 ·rw [h]; exact hk
 ·rw [h2]; exact .inr ⟨h, rfl⟩
theorem Opt.YP {d : Bool} {α β : Type} {o : Option (α ⊕ β)} {v : α} {k : α -> Option β} {w : β} (h : Opt d o (.inl v)) (hk : Opt d (k v) w) : Opt d (KO o k) w := by
 rcases h with h | ⟨h, h2⟩
 ·rw [h]; exact hk
 ·rw [h2]; exact .inr ⟨h, rfl⟩
theorem Opt.Yc {d : Bool} {α β : Type} {o : Option (α ⊕ β)} {k : α -> Option β} {w : β} (h : Opt d o (.inr w)) : Opt d (KO o k) w := by
 rcases h with h | ⟨h, h2⟩
 ·rw [h]; exact .inl rfl
 ·rw [h2]; exact .inr ⟨h, rfl⟩
theorem Opt.mono {d d' : Bool} {α : Type} {o : Option α} {v : α} (h : Opt d o v) (hd : d' = true -> d = true) : Opt d' o v := by
 rcases h with h | ⟨h, h2⟩
 ·exact .inl h
 ·refine .inr ⟨?_, h2⟩
  cases d' with
  | false => rfl
  | true => rw [hd rfl] at h; cases h
theorem kf {σ τ : Type} {f : σ -> Option (σ ⊕ τ)} {d : Bool} (st : Nat -> σ) (res : Nat -> τ) (n : Nat) (hs : ∀ k, k < n -> Opt d (f (st k)) (.inl (st (k + 1))) /\ res (k + 1) = res k \/ Opt d (f (st k)) (.inr (res k)))
  (hf : Opt d (f (st n)) (.inr (res n))) {s0 : σ} {r : τ} (h0 : s0 = st 0) (hr : res 0 = r) : Opt d (aV f s0) r := by
 have : ∀ j, j <= n -> Opt d (aV f (st (n - j))) (res (n - j)) := by
  intro j
  induction j with
  | zero =>
   intro _
   rw [Nat.sub_zero]
   rcases hf with h | ⟨h, h2⟩
   ·exact .inl (bq h)
   ·refine .inr ⟨h, by rw [oG, h2]⟩
  | succ j ih =>
   intro hj
   rcases hs (n - (j + 1)) (by omega) with ⟨h, e⟩ | h
   ·rw [show n - (j + 1) + 1 = n - j by omega] at h e
    rcases h with h | ⟨h, h2⟩
    ·rw [dL h, <- e]; exact ih (by omega)
    ·exact .inr ⟨h, by rw [oG, h2]⟩
   ·rcases h with h | ⟨h, h2⟩
    ·exact .inl (bq h)
    ·exact .inr ⟨h, by rw [oG, h2]⟩
 have h := this n (Nat.le_refl n)
 rw [Nat.sub_self] at h
 rw [h0, <- hr]
 exact h
theorem pX {α : Type} {R : Nat -> Option α} {v : α} (m : Nat) (h : ∀ k, Opt (decide (m < k)) (R k) v) : lim R = some v := by
 refine Mt (m + 1) ?_ (fun k v' hk => ?_)
 ·rcases h (m + 1) with h | ⟨h, _⟩
  ·exact h
  ·rw [decide_eq_true (by omega)] at h; cases h
 ·rcases h k with h | ⟨_, h⟩
  ·rw [h] at hk; exact (Option.some.inj hk).symm
  ·rw [h] at hk; cases hk
inductive LT where
 | leaf (ps : List az) : LT
 | br (ks : List ByteArray) (xs : List LT) : LT
mutual
def LT.size : LT -> Nat
 | .leaf _ => 1
 | .br _ xs => 1 + aP xs
def aP : List LT -> Nat
 | [] => 0
 | x :: xs => x.size + aP xs
end
mutual
def LT.hgt : LT -> Nat
 | .leaf _ => 0
 | .br _ xs => 1 + HR xs
def HR : List LT -> Nat
 | [] => 0
 | x :: xs => max x.hgt (HR xs)
end
def po : Nat -> List LT -> List Int
 | _, [] => []
 | k, x :: xs => (k : Int) :: po (k + x.size) xs
mutual
def nq : Nat -> LT -> List Node
 | _, .leaf ps => [⟨ps, [], []⟩]
 | k, .br ks xs => ⟨[], ks, po (k + 1) xs⟩ :: kZ (k + 1) xs
def kZ : Nat -> List LT -> List Node
 | _, [] => []
 | k, x :: xs => nq k x ++ kZ (k + x.size) xs
end
mutual
def least : LT -> ByteArray
 | .leaf [] => ⟨#[]⟩
 | .leaf (p :: _) => p.key
 | .br _ xs => Sy xs
def Sy : List LT -> ByteArray
 | [] => ⟨#[]⟩
 | x :: _ => least x
end
mutual
def prs : LT -> List az
 | .leaf ps => ps
 | .br _ xs => vi xs
def vi : List LT -> List az
 | [] => []
 | x :: xs => prs x ++ vi xs
end
mutual
def full : Bool -> LT -> Bool
 | root, .leaf ps => decide (ps.length <= 4) && (decide (2 <= ps.length) || (root && decide (ps.length = 1)))
 | _, .br _ xs => sU xs
def sU : List LT -> Bool
 | [] => true
 | x :: xs => full false x && sU xs
end
mutual
def aE : LT -> Int
 | .leaf _ => 1
 | .br _ xs => Fm xs
def Fm : List LT -> Int
 | [] => 0
 | x :: xs => if aE x < 0 then -1 else if sj (aE x) xs then aE x + 1 else -1
def sj : Int -> List LT -> Bool
 | _, [] => true
 | d, x :: xs => (aE x == d) && sj d xs
end
mutual
def sm : LT -> Bool
 | .leaf _ => true
 | .br ks xs => decide (ks = xs.tail.map least) && uW xs
def uW : List LT -> Bool
 | [] => true
 | x :: xs => sm x && uW xs
end
mutual
def hJ : LT -> Prop
 | .leaf ps => 1 <= ps.length /\ ps.length <= 4
 | .br ks xs => (2 <= xs.length /\ xs.length <= 4 /\ ks.length + 1 = xs.length) /\ Dg xs
def Dg : List LT -> Prop
 | [] => True
 | x :: xs => hJ x /\ Dg xs
end
mutual
theorem gP : ∀ (k : Nat) (x : LT), (nq k x).length = x.size
 | k, .leaf ps => by simp [nq, LT.size]
 | k, .br ks xs => by simp only [nq, LT.size, List.length_cons, Br]; omega
theorem Br : ∀ (k : Nat) (xs : List LT), (kZ k xs).length = aP xs
 | k, [] => by simp [kZ, aP]
 | k, x :: xs => by simp only [kZ, aP, List.length_append, gP, Br]
end
theorem size_pos : ∀ (x : LT), 1 <= x.size
 | .leaf ps => by simp [LT.size]
 | .br ks xs => by simp only [LT.size]; omega
theorem fq : ∀ (k : Nat) (xs : List LT), (po k xs).length = xs.length
 | _, [] => rfl
 | k, x :: xs => by simp only [po, List.length_cons, fq]
theorem Lv : ∀ {xs : List LT} {y : LT}, y ∈ xs -> y.hgt <= HR xs
 | [], y, h => by cases h
 | x :: xs, y, h => by
  simp only [HR]
  rcases List.mem_cons.1 h with rfl | h
  ·omega
  ·have := Lv h; omega
theorem zu : ∀ {xs : List LT} {y : LT}, y ∈ xs -> y.size <= aP xs
 | [], y, h => by cases h
 | x :: xs, y, h => by
  simp only [aP]
  rcases List.mem_cons.1 h with rfl | h
  ·omega
  ·have := zu h; omega
theorem fu : ∀ {xs : List LT} {y : LT}, Dg xs -> y ∈ xs -> hJ y
 | [], y, _, h => by cases h
 | x :: xs, y, o, h => by
  simp only [Dg] at o
  rcases List.mem_cons.1 h with rfl | h
  ·exact o.1
  ·exact fu o.2 h
mutual
theorem FB : ∀ (x : LT), x.hgt <= x.size
 | .leaf ps => by simp [LT.hgt, LT.size]
 | .br ks xs => by have := IG xs; simp only [LT.hgt, LT.size]; omega
theorem IG : ∀ (xs : List LT), HR xs <= aP xs
 | [] => by simp [HR]
 | x :: xs => by have := FB x; have := IG xs; simp only [HR, aP]; omega
end
theorem Ou : ∀ {xs : List LT} {y : LT}, y ∈ xs -> (prs y).length <= (vi xs).length
 | [], y, h => by cases h
 | x :: xs, y, h => by
  simp only [vi, List.length_append]
  rcases List.mem_cons.1 h with rfl | h
  ·omega
  ·have := Ou h; omega
mutual
theorem rB : ∀ (x : LT), hJ x -> (prs x).length <= 4 * x.size
 | .leaf ps, h => by simp only [hJ] at h; simp only [prs, LT.size]; omega
 | .br ks xs, h => by have := Kb xs h.2; simp only [prs, LT.size]; omega
theorem Kb : ∀ (xs : List LT), Dg xs -> (vi xs).length <= 4 * aP xs
 | [], _ => by simp [vi]
 | x :: xs, h => by
  have := rB x h.1; have := Kb xs h.2
  simp only [vi, aP, List.length_append]; omega
end
mutual
theorem Lb : ∀ (x : LT), -1 <= aE x /\ aE x <= x.hgt + 1
 | .leaf ps => by simp [aE, LT.hgt]
 | .br ks xs => by have := Ur xs; simp only [aE, LT.hgt]; omega
theorem Ur : ∀ (xs : List LT), -1 <= Fm xs /\ Fm xs <= HR xs + 2
 | [] => by simp [Fm, HR]
 | x :: xs => by
  have := Lb x
  simp only [Fm, HR]
  split
  ·omega
  ·split <;> omega
end
mutual
def pq : LT -> aA
 | .leaf ps => ⟨true, ps, []⟩
 | .br _ xs => ⟨false, [], gW xs⟩
def gW : List LT -> List R3
 | [] => []
 | x :: xs => fD (pq x) :: gW xs
end
theorem dG : ∀ (xs : List LT), (gW xs).length = xs.length
 | [] => by simp [gW]
 | x :: xs => by simp only [gW, List.length_cons, dG xs]
theorem ni : ∀ {xs : List LT} {k : Nat} {y : LT}, xs[k]? = some y -> (gW xs)[k]? = some (fD (pq y))
 | [], k, y, h => by simp at h
 | x :: xs, 0, y, h => by simp only [List.getElem?_cons_zero, Option.some.injEq] at h; subst h; simp [gW]
 | x :: xs, k + 1, y, h => by simp only [List.getElem?_cons_succ] at h; simp only [gW, List.getElem?_cons_succ]; exact ni h
theorem KB : ∀ (xs ys : List LT), gW (xs ++ ys) = gW xs ++ gW ys
 | [], ys => by simp [gW]
 | x :: xs, ys => by simp only [List.cons_append, gW, KB xs ys]
theorem vc {α : Type} {e : α -> List C} (h : ∀ a b, e a = e b -> a = b) : ∀ {xs ys : List α}, xs.map e = ys.map e -> xs = ys
 | [], [], _ => rfl
 | [], _ :: _, g => by simp at g
 | _ :: _, [], g => by simp at g
 | x :: xs, y :: ys, g => by
  simp only [List.map_cons, List.cons.injEq] at g
  rw [h _ _ g.1, vc h g.2]
theorem Wd {a b : ByteArray} (h : sC a = sC b) : a = b := by
 unfold sC at h
 injection h with h
 injection h
theorem XW {a b : Bool} (h : bC a = bC b) : a = b := by
 unfold bC at h
 injection h with h
 injection h
theorem Ik (a b : az) (h : af a = af b) : a = b := by
 cases a; cases b
 simp only [af, List.cons.injEq, and_true] at h
 rw [Wd h.1, Wd h.2]
theorem WB (a b : R3) (h : eR3 a = eR3 b) : a = b := by
 cases a; cases b
 simp only [eR3, List.cons.injEq, and_true] at h
 rw [h.1, h.2.1, h.2.2]
theorem WA (a b : R1) (h : eR1 a = eR1 b) : a = b := by
 cases a; cases b
 simp only [eR1, List.cons.injEq, and_true] at h
 rw [h]
theorem Vb (a b : aA) (h : fD a = fD b) : a = b := by
 cases a; cases b
 simp only [fD, R3.mk.injEq, C.fz.injEq] at h
 obtain ⟨h1, h2, h3⟩ := h
 unfold lC at h2 h3
 injection h2 with _ h2
 injection h3 with _ h3
 rw [XW h1, vc Ik h2, vc WB h3]
theorem Kc (y : aA) : rdE fD (fD y) = some y := Wa Vb y
theorem Pt {xs : List LT} {k : Nat} {y : LT} (h : xs[k]? = some y) : sU (xs.drop k) = (full false y && sU (xs.drop (k + 1))) := by
 obtain ⟨hk, rfl⟩ := List.getElem?_eq_some_iff.1 h
 rw [List.drop_eq_getElem_cons hk, sU]
theorem Tb : ∀ (k : Nat) (x : LT) (root : Bool), hJ x -> Opt (decide (x.hgt < k)) ((bl k).1 (pq x) root) (full root x)
 | 0, x, root, _ => .inr ⟨by simp, rfl⟩
 | k + 1, .leaf ps, root, h => by
  refine .val ?_
  show (iJ (bl k).1 (bl k).2 (pq (.leaf ps)) root).den = _
  simp only [pq, iJ, W.D, full]
  simp only [hJ] at h
  rw [cond_true, decide_eq_true (by omega : (ps.length : Int) <= 4), decide_eq_true h.2]
  by_cases h2 : 2 <= ps.length
  ·rw [decide_eq_true (by omega), decide_eq_true h2]; rfl
  ·rw [decide_eq_false (by omega), decide_eq_false h2, show ((ps.length : Int) == 1) = true by rw [beq_iff_eq]; omega, decide_eq_true (by omega : ps.length = 1)]
   cases root <;> rfl
 | k + 1, .br ks xs, root, h => by
  show Opt _ (iJ (bl k).1 (bl k).2 (pq (.br ks xs)) root).den _
  simp only [hJ] at h
  obtain ⟨⟨h1, h2, h3⟩, h4⟩ := h
  simp only [pq, iJ, W.D, full, dG]
  rw [cond_false, decide_eq_false (by omega : ¬ (xs.length : Int) < 2), decide_eq_false (by omega : ¬ (xs.length : Int) > 4)]
  simp only [cond_false, List.length_nil]
  rw [show decide (((0 : Nat) : Int) > 0) = false from rfl]
  simp only [cond_false, W.D]
  have hl : Opt (decide ((LT.br ks xs).hgt < k + 1)) (aV (fun s => (fM ⟨false, [], gW xs⟩ root (bl k).1 (bl k).2 s).den) 0) (if sU xs then .inl () else .inr false) := by
   refine kf (f := fun s => (fM ⟨false, [], gW xs⟩ root (bl k).1 (bl k).2 s).den) (fun j : Nat => (j : Int)) (fun j => if sU (xs.drop j) then .inl () else .inr false) xs.length (fun j hj => ?_) ?_ rfl (by rw [List.drop_zero])
   ·have hg := List.getElem?_eq_getElem hj
    have hm := List.getElem_mem hj
    have IH := (Tb k xs[j] false (fu h4 hm)).mono (d' := decide ((LT.br ks xs).hgt < k + 1)) (fun g => by
     rw [decide_eq_true_eq] at g ⊢
     have := Lv hm
     simp only [LT.hgt] at g
     omega)
    have key : Opt (decide ((LT.br ks xs).hgt < k + 1)) (fM ⟨false, [], gW xs⟩ root (bl k).1 (bl k).2 (j : Int)).den (if full false xs[j] then .inl ((j + 1 : Nat) : Int) else .inr (.inr false)) := by
     simp only [fM, W.D, dG]
     rw [decide_eq_true (by omega : (j : Int) < (xs.length : Int)), cond_true, ag (ni hg)]
     simp only [W.D]
     rw [Kc]
     simp only [W.D]
     refine IH.bnd (.val ?_)
     rw [an _ (by omega) (by omega)]
     cases full false xs[j] <;> rfl
    rw [Pt hg]
    cases hfy : full false xs[j] with
    | true => left; rw [hfy] at key; exact ⟨key, by simp⟩
    | false => right; rw [hfy] at key; simpa using key
   ·refine .val ?_
    simp only [fM, W.D, dG]
    rw [decide_eq_false (by omega), cond_false, List.drop_length]
    rfl
  cases hfs : sU xs with
  | true => rw [hfs] at hl; exact hl.YP (.val rfl)
  | false => rw [hfs] at hl; exact hl.Yc
theorem Ph {d : Int} {xs : List LT} {k : Nat} {y : LT} (h : xs[k]? = some y) : sj d (xs.drop k) = ((aE y == d) && sj d (xs.drop (k + 1))) := by
 obtain ⟨hk, rfl⟩ := List.getElem?_eq_some_iff.1 h
 rw [List.drop_eq_getElem_cons hk, sj]
theorem Az {k : Nat} {ks : List ByteArray} {xs : List LT} {y : LT} (hm : y ∈ xs) (g : decide ((LT.br ks xs).hgt < k + 1) = true) : decide (y.hgt < k) = true := by
 rw [decide_eq_true_eq] at g ⊢
 have := Lv hm
 simp only [LT.hgt] at g
 omega
def ZJ (d : Int) : Nat -> Int
 | 0 => 0
 | _ + 1 => d + 1
theorem SZ : ∀ (k : Nat) (x : LT), hJ x -> x.size <= 1048576 -> Opt (decide (x.hgt < k)) ((aX k).1 (pq x)) (aE x)
 | 0, x, _, _ => .inr ⟨by simp, rfl⟩
 | k + 1, .leaf ps, h, _ => by
  refine .val ?_
  show (iI (aX k).1 (aX k).2 (pq (.leaf ps))).den = _
  simp only [pq, iI, W.D, aE, cond_true]
 | k + 1, .br ks [], h, _ => by simp only [hJ, List.length_nil] at h; omega
 | k + 1, .br ks (x0 :: xr), h, hz => by
  show Opt _ (iI (aX k).1 (aX k).2 (pq (.br ks (x0 :: xr)))).den _
  have hxs : ∃ xs, xs = x0 :: xr := ⟨_, rfl⟩
  obtain ⟨xs, hxs⟩ := hxs
  rw [<- hxs] at h hz ⊢
  have hD : aE (.br ks xs) = if aE x0 < 0 then -1 else if sj (aE x0) xs then aE x0 + 1 else -1 := by
   subst hxs
   simp only [aE, Fm, sj, beq_self_eq_true, Bool.true_and]
  simp only [hJ] at h
  obtain ⟨⟨h1, h2, h3⟩, h4⟩ := h
  simp only [LT.size] at hz
  rw [hD]
  simp only [pq, iI, W.D]
  rw [cond_false]
  have h0 : xs[0]? = some x0 := by rw [hxs]; rfl
  have step : ∀ (j : Nat) (y : LT) (v : Int), xs[j]? = some y -> Opt (decide ((LT.br ks xs).hgt < k + 1)) (dS ⟨false, [], gW xs⟩ (aX k).1 (aX k).2 ⟨v, (j : Int)⟩).den
    (if aE y < 0 \/ j > 0 /\ aE y + 1 ≠ v then .inr (.inr (-1)) else .inl ⟨aE y + 1, ((j + 1 : Nat) : Int)⟩) := by
   intro j y v hg
   have hm := List.mem_of_getElem? hg
   have hsz := zu hm
   have hlo := Lb y
   have hhs := FB y
   have hj := (List.getElem?_eq_some_iff.1 hg).1
   simp only [dS, W.D, dG]
   rw [decide_eq_true (by omega : (j : Int) < (xs.length : Int)), cond_true, ag (ni hg)]
   simp only [W.D]
   rw [Kc]
   simp only [W.D]
   refine ((SZ k y (fu h4 hm) (by omega)).mono (Az (ks := ks) hm)).bnd (.val ?_)
   rw [an (aE y + 1) (by omega) (by omega), an ((j : Int) + 1) (by omega) (by omega)]
   by_cases c1 : aE y < 0
   ·rw [decide_eq_true c1, if_pos (.inl c1)]; rfl
   ·rw [decide_eq_false c1]
    by_cases c2 : j > 0
    ·rw [decide_eq_true (by omega : (j : Int) > 0)]
     by_cases c3 : aE y + 1 = v
     ·rw [if_neg (by omega), show (aE y + 1 != v) = false by rw [bne_eq_false_iff_eq]; exact c3]; rfl
     ·rw [if_pos (.inr ⟨c2, c3⟩), show (aE y + 1 != v) = true by rw [bne_iff_ne]; exact c3]; rfl
    ·rw [decide_eq_false (by omega : ¬ (j : Int) > 0), if_neg (by omega)]; rfl
  have hl : Opt (decide ((LT.br ks xs).hgt < k + 1)) (aV (fun s => (dS ⟨false, [], gW xs⟩ (aX k).1 (aX k).2 s).den) ⟨0, 0⟩)
    (if aE x0 < 0 then .inr (-1) else if sj (aE x0) xs then .inl (aE x0 + 1) else .inr (-1)) := by
   by_cases c : aE x0 < 0
   ·rw [if_pos c]
    refine kf (f := fun s => (dS ⟨false, [], gW xs⟩ (aX k).1 (aX k).2 s).den) (fun j : Nat => ⟨0, (j : Int)⟩) (fun _ => .inr (-1)) 0 (fun j hj => by omega) ?_ rfl rfl
    have := step 0 x0 0 h0
    rwa [if_pos (.inl c)] at this
   ·rw [if_neg c]
    refine kf (f := fun s => (dS ⟨false, [], gW xs⟩ (aX k).1 (aX k).2 s).den) (fun j : Nat => ⟨ZJ (aE x0) j, (j : Int)⟩) (fun j => if sj (aE x0) (xs.drop j) then .inl (aE x0 + 1) else .inr (-1)) xs.length (fun j hj => ?_) ?_ rfl (by rw [List.drop_zero])
    ·have hg := List.getElem?_eq_getElem hj
     rw [Ph hg]
     cases j with
     | zero =>
      have e0 : xs[0] = x0 := by rw [hg] at h0; exact Option.some.inj h0
      have st := step 0 x0 0 h0
      rw [if_neg (by omega : ¬ (aE x0 < 0 \/ 0 > 0 /\ aE x0 + 1 ≠ 0))] at st
      rw [e0, beq_self_eq_true, Bool.true_and]
      exact .inl ⟨st, rfl⟩
     | succ j =>
      have st := step (j + 1) xs[j + 1] (aE x0 + 1) hg
      by_cases ce : aE xs[j + 1] = aE x0
      ·left
       rw [if_neg (by omega : ¬ (aE xs[j + 1] < 0 \/ j + 1 > 0 /\ aE xs[j + 1] + 1 ≠ aE x0 + 1)), ce] at st
       rw [beq_iff_eq.2 ce, Bool.true_and]
       exact ⟨st, rfl⟩
      ·right
       rw [if_pos (by omega : aE xs[j + 1] < 0 \/ j + 1 > 0 /\ aE xs[j + 1] + 1 ≠ aE x0 + 1)] at st
       rw [beq_eq_false_iff_ne.2 ce, Bool.false_and]
       exact st
    ·refine .val ?_
     simp only [dS, W.D, dG]
     rw [decide_eq_false (by omega : ¬ (xs.length : Int) < (xs.length : Int)), cond_false, List.drop_length]
     have : ∃ m, xs.length = m + 1 := ⟨xs.length - 1, by omega⟩
     obtain ⟨m, hm⟩ := this
     rw [hm]
     rfl
  by_cases c : aE x0 < 0
  ·rw [if_pos c] at hl ⊢; exact hl.Yc
  ·rw [if_neg c] at hl ⊢
   cases hd : sj (aE x0) xs with
   | true => rw [hd] at hl; exact hl.YP (.val rfl)
   | false => rw [hd] at hl; exact hl.Yc
theorem Tc (x : LT) (root : Bool) (h : hJ x) : BX (pq x) root = some (full root x) := pX x.hgt fun k => Tb k x root h
theorem Ta (x : LT) (h : hJ x) (hz : x.size <= 1048576) : BW (pq x) = some (aE x) := pX x.hgt fun k => SZ k x h hz
theorem vj : ∀ (xs : List LT) (y : LT), vi (xs ++ [y]) = vi xs ++ prs y
 | [], y => by simp [vi]
 | x :: xs, y => by simp only [List.cons_append, vi, vj xs y, List.append_assoc]
theorem kv : ∀ (xs : List LT) (y : LT), aP (xs ++ [y]) = aP xs + y.size
 | [], y => by simp [aP]
 | x :: xs, y => by simp only [List.cons_append, aP, kv xs y]; omega
theorem BF : ∀ (k : Nat) (xs : List LT) (y : LT), po k (xs ++ [y]) = po k xs ++ [((k + aP xs : Nat) : Int)]
 | k, [], y => by simp [po, aP]
 | k, x :: xs, y => by simp only [List.cons_append, po, BF (k + x.size) xs y, aP, Nat.add_assoc]
theorem yC (xs : List LT) (j : Nat) : (vi (xs.take j)).length <= (vi xs).length := by
 have : ∀ (xs ys : List LT), vi (xs ++ ys) = vi xs ++ vi ys := by
  intro xs ys
  induction xs with
  | nil => simp [vi]
  | cons x xs ih => simp only [List.cons_append, vi, ih, List.append_assoc]
 conv => rhs; rw [<- List.take_append_drop j xs, this]
 rw [List.length_append]
 omega
theorem OG : ∀ (k : Nat) (x : LT), hJ x -> (prs x).length <= 1048576 -> Opt (decide (x.hgt < k)) ((aW k).1 (pq x)) (prs x)
 | 0, x, _, _ => .inr ⟨by simp, rfl⟩
 | k + 1, .leaf ps, h, hz => by
  refine .val ?_
  show (cN (aW k).1 (aW k).2 (pq (.leaf ps))).den = _
  simp only [prs] at hz
  simp only [pq, cN, W.D, prs]
  rw [if_pos (by simp only [List.length_nil]; omega), bq (t := ps) (by
   simp only [dv, W.D]
   rw [show decide ((0 : Int) < (([] : List R3).length : Int)) = false from rfl]
   rfl)]
  rfl
 | k + 1, .br ks xs, h, hz => by
  show Opt _ (cN (aW k).1 (aW k).2 (pq (.br ks xs))).den _
  simp only [hJ] at h
  simp only [prs] at hz ⊢
  obtain ⟨⟨h1, h2, h3⟩, h4⟩ := h
  simp only [pq, cN, W.D]
  rw [if_pos (by simp only [List.length_nil]; omega)]
  refine Opt.bnd ?_ (.val rfl)
  refine kf (f := fun s => (dv ⟨false, [], gW xs⟩ (aW k).1 (aW k).2 s).den) (fun j : Nat => ⟨vi (xs.take j), (j : Int)⟩) (fun _ => vi xs) xs.length (fun j hj => .inl ⟨?_, rfl⟩) ?_ rfl rfl
  ·have hg := List.getElem?_eq_getElem hj
   have hm := List.getElem_mem hj
   have hp := Ou hm
   have hp2 := yC xs j
   simp only [dv, W.D, dG]
   rw [decide_eq_true (by omega : (j : Int) < (xs.length : Int)), cond_true, ag (ni hg)]
   simp only [W.D]
   rw [Kc]
   simp only [W.D]
   refine ((OG k xs[j] (fu h4 hm) (by omega)).mono (Az (ks := ks) hm)).bnd (.val ?_)
   rw [if_pos (by omega), an _ (by omega) (by omega), <- aR hj, vj]
   rfl
  ·refine .val ?_
   simp only [dv, W.D, dG]
   rw [decide_eq_false (by omega : ¬ (xs.length : Int) < (xs.length : Int)), cond_false, List.take_length]
theorem EC (x : LT) (h : hJ x) (hz : (prs x).length <= 1048576) : ng (pq x) = some (prs x) := pX x.hgt fun k => OG k x h hz
theorem OF : ∀ (k : Nat) (x : LT), hJ x -> Opt (decide (x.hgt < k)) ((cl k).1 (pq x)) (least x)
 | 0, x, _ => .inr ⟨by simp, rfl⟩
 | k + 1, .leaf [], h => by simp only [hJ, List.length_nil] at h; omega
 | k + 1, .leaf (p :: ps), h => by
  refine .val ?_
  show (fJ (cl k).1 (cl k).2 (pq (.leaf (p :: ps)))).den = _
  simp only [pq, fJ, W.D, least]
  rw [show (!true) = false from rfl]
  simp only [cond_false, W.D]
  rw [decide_eq_true (by simp only [List.length_cons]; omega), cond_true, show (0 : Int) = ((0 : Nat) : Int) from rfl, gO]
  rfl
 | k + 1, .br ks [], h => by simp only [hJ, List.length_nil] at h; omega
 | k + 1, .br ks (x0 :: xr), h => by
  show Opt _ (fJ (cl k).1 (cl k).2 (pq (.br ks (x0 :: xr)))).den _
  simp only [hJ] at h
  obtain ⟨⟨h1, h2, h3⟩, h4⟩ := h
  simp only [pq, fJ, W.D, dG, least, Sy]
  rw [show (!false) = true from rfl]
  simp only [cond_true, W.D]
  rw [decide_eq_true (by omega : (((x0 :: xr).length : Nat) : Int) > 0), cond_true, show (0 : Int) = ((0 : Nat) : Int) from rfl, ag (ni (show (x0 :: xr)[0]? = some x0 from rfl))]
  simp only [W.D]
  rw [Kc]
  simp only [W.D]
  exact ((OF k x0 (fu h4 (by simp))).mono (Az (ks := ks) (by simp))).bnd (.val rfl)
theorem Qx (x : LT) (h : hJ x) : wW (pq x) = some (least x) := pX x.hgt fun k => OF k x h
mutual
def Gh : Nat -> LT -> List Node
 | _, .leaf ps => [⟨ps, [], []⟩]
 | k, .br _ xs => ⟨[], xs.tail.map least, po (k + 1) xs⟩ :: iw (k + 1) xs
def iw : Nat -> List LT -> List Node
 | _, [] => []
 | k, x :: xs => Gh k x ++ iw (k + x.size) xs
end
mutual
theorem lZ : ∀ (k : Nat) (x : LT), (Gh k x).length = x.size
 | k, .leaf ps => by simp [Gh, LT.size]
 | k, .br ks xs => by simp only [Gh, LT.size, List.length_cons, Bq]; omega
theorem Bq : ∀ (k : Nat) (xs : List LT), (iw k xs).length = aP xs
 | k, [] => by simp [iw, aP]
 | k, x :: xs => by simp only [iw, aP, List.length_append, lZ, Bq]
end
theorem Ef : ∀ (k : Nat) (xs : List LT) (y : LT), iw k (xs ++ [y]) = iw k xs ++ Gh (k + aP xs) y
 | k, [], y => by simp [iw, aP]
 | k, x :: xs, y => by simp only [List.cons_append, iw, Ef (k + x.size) xs y, aP, Nat.add_assoc, List.append_assoc]
theorem Hc (xs : List LT) (j : Nat) : aP (xs.take j) <= aP xs := by
 have : ∀ (xs ys : List LT), aP (xs ++ ys) = aP xs + aP ys := by
  intro xs ys
  induction xs with
  | nil => simp [aP]
  | cons x xs ih => simp only [List.cons_append, aP, ih]; omega
 conv => rhs; rw [<- List.take_append_drop j xs, this]
 omega
theorem Hd {xs : List LT} {j : Nat} (hj : j < xs.length) : aP (xs.take j) + xs[j].size <= aP xs := by
 have := Hc xs (j + 1)
 rw [<- aR hj, kv] at this
 exact this
theorem TD {xs : List LT} {j : Nat} (hj : j < xs.length) : ((xs.take (j + 1)).tail.map least) = if j > 0 then (xs.take j).tail.map least ++ [least xs[j]] else [] := by
 rw [<- aR hj]
 cases j with
 | zero => simp
 | succ j =>
  rw [if_pos (by omega), List.tail_append_of_ne_nil (by intro h; have := congrArg List.length h; rw [List.length_take, List.length_nil] at this; omega), List.map_append]
  rfl
theorem wZ {α : Type} (A B : List α) (z w : α) (n : Nat) (hn : n = A.length) : (A ++ [z] ++ B).set n w = A ++ [w] ++ B := by
 subst hn
 rw [List.append_assoc, List.append_assoc, List.set_append_right _ _ (Nat.le_refl _), Nat.sub_self]
 rfl
theorem Fy {α : Type} (A B : List α) (z : α) : (A ++ [z] ++ B)[A.length]? = some z := by
 rw [List.append_assoc, List.getElem?_append_right (Nat.le_refl _), Nat.sub_self]
 rfl
theorem We : ∀ (k : Nat) (x : LT) (p : List Node), hJ x -> p.length + x.size <= 1048576 -> Opt (decide (x.hgt < k)) ((cJ k).1 p (pq x)) (p ++ Gh p.length x)
 | 0, x, p, _, _ => .inr ⟨by simp, rfl⟩
 | k + 1, .leaf ps, p, h, hz => by
  refine .val ?_
  show (ly (cJ k).1 (cJ k).2 p (pq (.leaf ps))).den = _
  simp only [hJ] at h
  simp only [LT.size] at hz
  simp only [pq, ly, W.D, Gh]
  rw [if_pos (by omega), cond_true, if_pos (by simp only [List.length_nil]; omega), ag (show (p ++ [(⟨[], [], []⟩ : Node)])[p.length]? = some ⟨[], [], []⟩ by have := Fy p [] (⟨[], [], []⟩ : Node); rwa [List.append_nil] at this)]
  simp only [W.D]
  have := wZ p [] (⟨[], [], []⟩ : Node) ⟨ps, [], []⟩ p.length rfl
  rw [List.append_nil, List.append_nil] at this
  rw [this]
 | k + 1, .br ks xs, p, h, hz => by
  show Opt _ (ly (cJ k).1 (cJ k).2 p (pq (.br ks xs))).den _
  simp only [hJ] at h
  simp only [LT.size] at hz
  obtain ⟨⟨h1, h2, h3⟩, h4⟩ := h
  simp only [pq, ly, W.D, Gh]
  rw [if_pos (by omega), cond_false]
  refine Opt.bnd (v := ⟨p ++ [(⟨[], [], []⟩ : Node)] ++ iw (p.length + 1) xs, xs.tail.map least, po (p.length + 1) xs⟩) ?_ ?_
  ·refine kf (f := fun s => (nJ p ⟨false, [], gW xs⟩ (cJ k).1 (cJ k).2 s).den)
    (fun j : Nat => ⟨p ++ [(⟨[], [], []⟩ : Node)] ++ iw (p.length + 1) (xs.take j), (j : Int), (xs.take j).tail.map least, po (p.length + 1) (xs.take j)⟩)
    (fun _ => ⟨p ++ [(⟨[], [], []⟩ : Node)] ++ iw (p.length + 1) xs, xs.tail.map least, po (p.length + 1) xs⟩) xs.length (fun j hj => .inl ⟨?_, rfl⟩) ?_ (by simp [iw, po]) rfl
   ·have hg := List.getElem?_eq_getElem hj
    have hm := List.getElem_mem hj
    have hs := Hd hj
    have hlen : (p ++ [(⟨[], [], []⟩ : Node)] ++ iw (p.length + 1) (xs.take j)).length = p.length + 1 + aP (xs.take j) := by
     rw [List.length_append, List.length_append, Bq]; rfl
    simp only [nJ, W.D, dG]
    rw [decide_eq_true (by omega : (j : Int) < (xs.length : Int)), cond_true, if_pos (by rw [fq, List.length_take]; simp only [List.length_cons, List.length_nil]; omega), ag (ni hg)]
    simp only [W.D]
    rw [Kc]
    simp only [W.D]
    have IH := (We k xs[j] (p ++ [(⟨[], [], []⟩ : Node)] ++ iw (p.length + 1) (xs.take j)) (fu h4 hm) (by omega)).mono (d' := decide ((LT.br ks xs).hgt < k + 1)) (Az (ks := ks) hm)
    have e1 : p ++ [(⟨[], [], []⟩ : Node)] ++ iw (p.length + 1) (xs.take j) ++ Gh (p ++ [(⟨[], [], []⟩ : Node)] ++ iw (p.length + 1) (xs.take j)).length xs[j] = p ++ [(⟨[], [], []⟩ : Node)] ++ iw (p.length + 1) (xs.take (j + 1)) := by
     rw [hlen, List.append_assoc _ (iw _ _), <- Ef, aR hj]
    rw [e1] at IH
    have e2 : po (p.length + 1) (xs.take j) ++ [((p ++ [(⟨[], [], []⟩ : Node)] ++ iw (p.length + 1) (xs.take j)).length : Int)] = po (p.length + 1) (xs.take (j + 1)) := by
     rw [hlen, <- BF, aR hj]
    rw [e2, TD hj]
    by_cases c : j > 0
    ·rw [decide_eq_true (by omega : (j : Int) > 0), cond_true, Qx _ (fu h4 hm), if_pos c]
     simp only [W.D]
     rw [if_pos (by simp only [List.length_map, List.length_tail, List.length_take, List.length_cons, List.length_nil]; omega)]
     simp only [W.D]
     refine IH.bnd (.val ?_)
     rw [an _ (by omega) (by omega)]
     rfl
    ·rw [decide_eq_false (by omega : ¬ (j : Int) > 0), cond_false, if_neg c]
     simp only [W.D]
     refine IH.bnd (.val ?_)
     have : j = 0 := by omega
     subst this
     rfl
   ·refine .val ?_
    simp only [nJ, W.D, dG]
    rw [decide_eq_false (by omega : ¬ (xs.length : Int) < (xs.length : Int)), cond_false, List.take_length]
  ·refine .val ?_
   simp only [W.D]
   rw [ag (Fy p (iw (p.length + 1) xs) (⟨[], [], []⟩ : Node))]
   simp only [W.D]
   rw [wZ _ _ _ _ _ rfl, List.append_assoc]
   rfl
theorem Vh (x : LT) (h : hJ x) (hz : x.size <= 1048576) : GZ [] (pq x) = some (Gh 0 x) := pX x.hgt fun k => by
 have := We k x [] h (by simpa using hz)
 simpa using this
def Pl (nodes : List Node) (k : Nat) (L : List Node) : Prop := ∀ i n, L[i]? = some n -> nodes[k + i]? = some n
theorem JH : ∀ {xs : List LT} {k j : Nat} {y : LT}, xs[j]? = some y -> ∀ (i : Nat) (n : Node), (nq (k + aP (xs.take j)) y)[i]? = some n -> (kZ k xs)[aP (xs.take j) + i]? = some n
 | [], k, j, y, h, _, _, _ => by simp at h
 | x :: xs, k, 0, y, h, i, n, g => by
  simp only [List.getElem?_cons_zero, Option.some.injEq] at h
  subst h
  simp only [List.take_zero, aP, Nat.add_zero, Nat.zero_add] at g ⊢
  have := (List.getElem?_eq_some_iff.1 g).1
  rw [kZ, List.getElem?_append_left this]
  exact g
 | x :: xs, k, j + 1, y, h, i, n, g => by
  simp only [List.getElem?_cons_succ] at h
  simp only [List.take_succ_cons, aP] at g ⊢
  have := JH (k := k + x.size) h i n (by rwa [Nat.add_assoc])
  rw [kZ, List.getElem?_append_right (by rw [gP]; omega), gP, show x.size + aP (xs.take j) + i - x.size = aP (xs.take j) + i by omega]
  exact this
theorem Gz : ∀ {xs : List LT} {k j : Nat}, j < xs.length -> (po k xs)[j]? = some ((k + aP (xs.take j) : Nat) : Int)
 | [], k, j, h => by simp at h
 | x :: xs, k, 0, h => by simp [po, aP]
 | x :: xs, k, j + 1, h => by
  simp only [po, List.getElem?_cons_succ, List.take_succ_cons, aP]
  rw [Gz (by simpa using h), Nat.add_assoc]
theorem VY {nodes : List Node} {k : Nat} {ks : List ByteArray} {xs : List LT} {j : Nat} {y : LT} (h : Pl nodes k (nq k (.br ks xs))) (hg : xs[j]? = some y) : Pl nodes (k + 1 + aP (xs.take j)) (nq (k + 1 + aP (xs.take j)) y) := fun i n hn => by
 have h1 := JH (k := k + 1) hg i n hn
 have h2 := h (1 + (aP (xs.take j) + i)) n (by
  rw [nq, Nat.add_comm 1, List.getElem?_cons_succ]
  exact h1)
 rw [show k + 1 + aP (xs.take j) + i = k + (1 + (aP (xs.take j) + i)) by omega]
 exact h2
def rdV (k dp : Nat) (x : LT) : aA × Int × Bool := if dp + x.hgt <= 12 then (pq x, ((k + x.size : Nat) : Int), true) else (⟨false, [], []⟩, 0, false)
theorem Ug {xs : List LT} {g : LT -> Bool} {k : Nat} {y : LT} (h : xs[k]? = some y) : (xs.drop k).all g = (g y && (xs.drop (k + 1)).all g) := by
 obtain ⟨hk, rfl⟩ := List.getElem?_eq_some_iff.1 h
 rw [List.drop_eq_getElem_cons hk, List.all_cons]
theorem NJ (d : Nat) : ∀ (xs : List LT), xs ≠ [] -> (decide (d + HR xs <= 12) = xs.all fun y => decide (d + y.hgt <= 12))
 | [], h => absurd rfl h
 | [x], _ => by simp [HR]
 | x :: y :: xs, _ => by
  rw [List.all_cons, <- NJ d (y :: xs) (by simp)]
  rw [Bool.eq_iff_iff, Bool.and_eq_true, decide_eq_true_eq, decide_eq_true_eq, decide_eq_true_eq]
  simp only [HR]
  omega
theorem Ye {dp : Nat} {ks : List ByteArray} {xs : List LT} (h : xs ≠ []) : decide (dp + (LT.br ks xs).hgt <= 12) = xs.all fun y => decide (dp + 1 + y.hgt <= 12) := by
 rw [<- NJ (dp + 1) xs h]
 simp only [LT.hgt]
 congr 1
 rw [eq_iff_iff]
 omega
theorem Tl (nodes : List Node) (hN : nodes.length <= 1048576) : ∀ (k : Nat) (x : LT) (a dp : Nat), hJ x -> Pl nodes a (nq a x) -> dp <= 1048576 -> Opt (decide (x.hgt < k)) ((bm k).1 ⟨nodes⟩ (a : Int) (dp : Int)) (rdV a dp x)
 | 0, x, a, dp, _, _, _ => .inr ⟨by simp, rfl⟩
 | k + 1, .leaf ps, a, dp, h, hp, hd => by
  refine .val ?_
  show (iK (bm k).1 (bm k).2 ⟨nodes⟩ (a : Int) (dp : Int)).den = _
  simp only [hJ] at h
  have hg := hp 0 ⟨ps, [], []⟩ (by simp [nq])
  rw [Nat.add_zero] at hg
  have hlt := (List.getElem?_eq_some_iff.1 hg).1
  have hr : rdV a dp (.leaf ps) = if dp <= 12 then (⟨true, ps, []⟩, ((a + 1 : Nat) : Int), true) else (⟨false, [], []⟩, 0, false) := by
   unfold rdV
   by_cases c : dp <= 12
   ·rw [if_pos (by simp only [LT.hgt]; omega), if_pos c]; simp only [pq, LT.size]
   ·rw [if_neg (by simp only [LT.hgt]; omega), if_neg c]
  rw [hr]
  simp only [iK, W.D]
  rw [decide_eq_false (by omega : ¬ (a : Int) < 0), decide_eq_false (by omega : ¬ (a : Int) >= (nodes.length : Int))]
  simp only [cond_false, W.D]
  by_cases c : dp <= 12
  ·rw [decide_eq_false (by omega : ¬ (dp : Int) > 12), if_pos c, cond_false, ag hg]
   simp only [W.D, List.length_nil]
   rw [if_pos (by omega), an _ (by omega) (by omega), bq (t := .inl ⟨(a : Int) + 1, []⟩) (by
    simp only [dT, W.D, List.length_nil]
    rfl)]
   rfl
  ·rw [decide_eq_true (by omega : (dp : Int) > 12), if_neg c]
   rfl
 | k + 1, .br ks xs, a, dp, h, hp, hd => by
  show Opt _ (iK (bm k).1 (bm k).2 ⟨nodes⟩ (a : Int) (dp : Int)).den _
  simp only [hJ] at h
  obtain ⟨⟨h1, h2, h3⟩, h4⟩ := h
  have hne : xs ≠ [] := by intro e; rw [e] at h1; simp at h1
  have hg := hp 0 ⟨[], ks, po (a + 1) xs⟩ (by simp [nq])
  rw [Nat.add_zero] at hg
  have hlt := (List.getElem?_eq_some_iff.1 hg).1
  have hb : rdV a dp (.br ks xs) = if xs.all (fun y => decide (dp + 1 + y.hgt <= 12)) then (pq (.br ks xs), ((a + (LT.br ks xs).size : Nat) : Int), true) else (⟨false, [], []⟩, 0, false) := by
   rw [<- Ye (ks := ks) hne]
   unfold rdV
   by_cases c : dp + (LT.br ks xs).hgt <= 12
   ·rw [if_pos c, if_pos (decide_eq_true c)]
   ·rw [if_neg c, if_neg (by rw [decide_eq_false c]; exact Bool.false_ne_true)]
  simp only [iK, W.D]
  rw [decide_eq_false (by omega : ¬ (a : Int) < 0), decide_eq_false (by omega : ¬ (a : Int) >= (nodes.length : Int))]
  simp only [cond_false, W.D]
  by_cases c : dp <= 12
  case neg =>
   rw [decide_eq_true (by omega : (dp : Int) > 12)]
   refine .val ?_
   unfold rdV
   rw [if_neg (by omega)]
   rfl
  rw [decide_eq_false (by omega : ¬ (dp : Int) > 12), cond_false, ag hg]
  simp only [W.D, List.length_nil]
  rw [if_pos (by omega), an (a + 1 : Int) (by omega) (by omega), hb]
  have hl : Opt (decide ((LT.br ks xs).hgt < k + 1)) (aV (fun s => (dT ⟨nodes⟩ (a : Int) (dp : Int) (bm k).1 (bm k).2 ⟨[], ks, po (a + 1) xs⟩ s).den) ⟨(a : Int) + 1, 0, []⟩)
    (if xs.all (fun y => decide (dp + 1 + y.hgt <= 12)) then .inl ⟨((a + 1 + aP xs : Nat) : Int), gW xs⟩ else .inr (⟨false, [], []⟩, 0, false)) := by
   refine kf (f := fun s => (dT ⟨nodes⟩ (a : Int) (dp : Int) (bm k).1 (bm k).2 ⟨[], ks, po (a + 1) xs⟩ s).den)
    (fun j : Nat => ⟨((a + 1 + aP (xs.take j) : Nat) : Int), (j : Int), gW (xs.take j)⟩) (fun j => if (xs.drop j).all (fun y => decide (dp + 1 + y.hgt <= 12)) then .inl ⟨((a + 1 + aP xs : Nat) : Int), gW xs⟩ else .inr (⟨false, [], []⟩, 0, false)) xs.length (fun j hj => ?_) ?_ (by simp [aP, gW]) (by rw [List.drop_zero])
   ·have hgj := List.getElem?_eq_getElem hj
    have hm := List.getElem_mem hj
    have IH := (Tl nodes hN k xs[j] (a + 1 + aP (xs.take j)) (dp + 1) (fu h4 hm) (VY hp hgj) (by omega)).mono (d' := decide ((LT.br ks xs).hgt < k + 1)) (Az (ks := ks) hm)
    have key : Opt (decide ((LT.br ks xs).hgt < k + 1)) (dT ⟨nodes⟩ (a : Int) (dp : Int) (bm k).1 (bm k).2 ⟨[], ks, po (a + 1) xs⟩ ⟨((a + 1 + aP (xs.take j) : Nat) : Int), (j : Int), gW (xs.take j)⟩).den
      (if dp + 1 + xs[j].hgt <= 12 then .inl ⟨((a + 1 + aP (xs.take (j + 1)) : Nat) : Int), ((j + 1 : Nat) : Int), gW (xs.take (j + 1))⟩ else .inr (.inr (⟨false, [], []⟩, 0, false))) := by
     simp only [dT, W.D, fq]
     rw [decide_eq_true (by omega : (j : Int) < (xs.length : Int)), cond_true, ag (Gz hj)]
     simp only [W.D]
     rw [show (((a + 1 + aP (xs.take j) : Nat) : Int) != ((a + 1 + aP (xs.take j) : Nat) : Int)) = false by simp, cond_false, an ((dp : Int) + 1) (by omega) (by omega)]
     refine IH.bnd (.val ?_)
     unfold rdV
     by_cases c2 : dp + 1 + xs[j].hgt <= 12
     ·rw [if_pos c2, if_pos c2]
      simp only [W.D, Bool.not_true, cond_false, dG]
      rw [if_pos (by rw [List.length_take]; simp only [List.length_cons, List.length_nil]; omega), an _ (by omega) (by omega), <- aR hj, kv, KB]
      simp only [gW, Nat.add_assoc]
      rfl
     ·rw [if_neg c2, if_neg c2]
      rfl
    rw [Ug hgj]
    by_cases c2 : dp + 1 + xs[j].hgt <= 12
    ·left
     rw [if_pos c2] at key
     exact ⟨key, by rw [decide_eq_true c2, Bool.true_and]⟩
    ·right
     rw [if_neg c2] at key
     rw [decide_eq_false c2, Bool.false_and]
     exact key
   ·refine .val ?_
    simp only [dT, W.D, fq]
    rw [decide_eq_false (by omega : ¬ (xs.length : Int) < (xs.length : Int)), cond_false, List.drop_length, List.take_length]
    rfl
  cases ha : xs.all (fun y => decide (dp + 1 + y.hgt <= 12)) with
  | false => rw [ha] at hl; exact hl.Yc
  | true =>
   rw [ha] at hl
   refine hl.YP (.val ?_)
   simp only [W.D, fq, pq, LT.size]
   rw [show ((xs.length : Int) == 0) = false by rw [beq_eq_false_iff_ne]; omega, Nat.add_assoc]
   rfl
theorem SQ (x : LT) : Pl (nq 0 x) 0 (nq 0 x) := fun i n h => by rwa [Nat.zero_add]
theorem Ku (x : LT) (h : hJ x) (hz : x.size <= 1048576) : ll ⟨nq 0 x⟩ = some (if x.hgt <= 12 then (pq x, true) else (⟨false, [], []⟩, false)) := by
 have hr : BY ⟨nq 0 x⟩ 0 0 = some (rdV 0 0 x) := pX x.hgt fun k => Tl _ (by rw [gP]; exact hz) k x 0 0 h (SQ x) (by omega)
 have := size_pos x
 simp only [ll, se, W.D, gP]
 rw [show ((x.size : Int) == 0) = false by rw [beq_eq_false_iff_ne]; omega, cond_false, hr]
 simp only [W.D]
 unfold rdV
 by_cases c : x.hgt <= 12
 ·rw [if_pos (by omega : 0 + x.hgt <= 12), if_pos c]
  simp only [W.D, cond_true, Nat.zero_add]
  rw [show ((x.size : Int) == (x.size : Int)) = true from beq_self_eq_true _]
 ·rw [if_neg (by omega : ¬ 0 + x.hgt <= 12), if_neg c]
  rfl
theorem yg (a b : ByteArray) : (a.toList == b.toList) = decide (a = b) := by
 by_cases h : a = b
 ·subst h; simp
 ·rw [decide_eq_false h, beq_eq_false_iff_ne]; exact fun g => h (DD g)
theorem eX {α : Type} [DecidableEq α] (xs ys : List α) (hn : xs.length < 4611686018427387904) (hl : xs.length = ys.length) {f : Int -> Option (Int ⊕ (Unit ⊕ Bool))}
  (hs : ∀ (k : Nat) (x y : α), xs[k]? = some x -> ys[k]? = some y -> f (k : Int) = some (bif decide (x = y) then .inl ((k + 1 : Nat) : Int) else .inr (.inr false))) (he : f (xs.length : Int) = some (.inr (.inl ()))) :
  aV f 0 = some (bif decide (xs = ys) then .inl () else .inr false) := by
 have h := bK xs hn (fun k x => decide (ys[k]? = some x)) (f := f) (fun k x hk => by
  have hlt := (List.getElem?_eq_some_iff.1 hk).1
  have hy := List.getElem?_eq_getElem (show k < ys.length by omega)
  rw [hs k x _ hk hy]
  congr 1
  congr 1
  rw [hy]
  by_cases e : x = ys[k]
  ·rw [decide_eq_true e, e, decide_eq_true rfl]
  ·rw [decide_eq_false e, decide_eq_false (by intro g; exact e (Option.some.inj g).symm)]) he
 rw [h]
 congr 1
 congr 1
 rw [Bool.eq_iff_iff, decide_eq_true_eq]
 constructor
 ·intro g
  refine List.ext_getElem? fun i => ?_
  by_cases hi : i < xs.length
  ·have := lW g i _ (List.getElem?_eq_getElem hi)
   rw [decide_eq_true_eq, Nat.zero_add] at this
   rw [this, List.getElem?_eq_getElem hi]
  ·rw [List.getElem?_eq_none (by omega), List.getElem?_eq_none (by omega)]
 ·rintro rfl
  exact zY fun j x hx => by rw [decide_eq_true_eq, Nat.zero_add]; exact hx
instance : DecidableEq az := fun a b => decidable_of_iff (a.key = b.key /\ a.val = b.val) (by cases a; cases b; simp)
instance : DecidableEq Node := fun a b => decidable_of_iff (a.pairs = b.pairs /\ a.keys = b.keys /\ a.kids = b.kids) (by cases a; cases b; simp)
theorem On (a b : az) : ((a.key.toList == b.key.toList) && ((a.val.toList == b.val.toList) && true)) = decide (a = b) := by
 rw [yg, yg, Bool.and_true, <- Bool.decide_and]
 congr 1
 rw [eq_iff_iff]
 cases a; cases b
 simp
theorem Kv (a b : Node) (h1 : a.pairs.length <= 1048576) (h2 : a.keys.length <= 1048576) (h3 : a.kids.length <= 1048576) : gQ a b = some (decide (a = b)) := by
 have e : decide (a = b) = (decide (a.pairs = b.pairs) && (decide (a.keys = b.keys) && decide (a.kids = b.kids))) := by
  rw [<- Bool.decide_and, <- Bool.decide_and]
  congr 1
  rw [eq_iff_iff]
  cases a; cases b
  simp
 rw [e]
 simp only [gQ, mI, W.D]
 by_cases l1 : a.pairs.length = b.pairs.length
 case neg => rw [show ((a.pairs.length : Int) != (b.pairs.length : Int)) = true by rw [bne_iff_ne]; omega, decide_eq_false (fun g => l1 (congrArg List.length g))]; rfl
 rw [show ((a.pairs.length : Int) != (b.pairs.length : Int)) = false by rw [bne_eq_false_iff_eq]; omega]
 by_cases l2 : a.keys.length = b.keys.length
 case neg => rw [show ((a.keys.length : Int) != (b.keys.length : Int)) = true by rw [bne_iff_ne]; omega, decide_eq_false (fun g => l2 (congrArg List.length g)) (p := a.keys = b.keys)]; simp
 rw [show ((a.keys.length : Int) != (b.keys.length : Int)) = false by rw [bne_eq_false_iff_eq]; omega]
 by_cases l3 : a.kids.length = b.kids.length
 case neg => rw [show ((a.kids.length : Int) != (b.kids.length : Int)) = true by rw [bne_iff_ne]; omega, decide_eq_false (fun g => l3 (congrArg List.length g)) (p := a.kids = b.kids)]; simp
 rw [show ((a.kids.length : Int) != (b.kids.length : Int)) = false by rw [bne_eq_false_iff_eq]; omega]
 simp only [cond_false, W.D]
 have k1 := eX a.pairs b.pairs (by omega) l1 (f := fun s => (fc a b s).den) (fun k x y hx hy => by
  have hlt := (List.getElem?_eq_some_iff.1 hx).1
  simp only [fc, W.D]
  rw [decide_eq_true (by omega : (k : Int) < (a.pairs.length : Int)), cond_true, ag hx]
  simp only [W.D]
  rw [ag hy]
  simp only [W.D]
  rw [On, an _ (by omega) (by omega)]
  cases decide (x = y) <;> rfl) (by
  simp only [fc, W.D]
  rw [decide_eq_false (by omega), cond_false])
 have k2 := eX a.keys b.keys (by omega) l2 (f := fun s => (fe a b s).den) (fun k x y hx hy => by
  have hlt := (List.getElem?_eq_some_iff.1 hx).1
  simp only [fe, W.D]
  rw [decide_eq_true (by omega : (k : Int) < (a.keys.length : Int)), cond_true, ag hx]
  simp only [W.D]
  rw [ag hy]
  simp only [W.D]
  rw [yg, an _ (by omega) (by omega)]
  cases decide (x = y) <;> rfl) (by
  simp only [fe, W.D]
  rw [decide_eq_false (by omega), cond_false])
 have k3 := eX a.kids b.kids (by omega) l3 (f := fun s => (ff a b s).den) (fun k x y hx hy => by
  have hlt := (List.getElem?_eq_some_iff.1 hx).1
  simp only [ff, W.D]
  rw [decide_eq_true (by omega : (k : Int) < (a.kids.length : Int)), cond_true, ag hx]
  simp only [W.D]
  rw [ag hy]
  simp only [W.D]
  rw [an _ (by omega) (by omega)]
  by_cases e : x = y
  ·rw [show (x != y) = false by rw [bne_eq_false_iff_eq]; exact e, decide_eq_true e]; rfl
  ·rw [show (x != y) = true by rw [bne_iff_ne]; exact e, decide_eq_false e]; rfl) (by
  simp only [ff, W.D]
  rw [decide_eq_false (by omega), cond_false])
 rw [k1]
 cases decide (a.pairs = b.pairs) with
 | false => rfl
 | true =>
  simp only [cond_true, yW, Bool.true_and]
  rw [k2]
  cases decide (a.keys = b.keys) with
  | false => rfl
  | true =>
   simp only [cond_true, yW, Bool.true_and]
   rw [k3]
   cases decide (a.kids = b.kids) <;> rfl
mutual
theorem Gg : ∀ (k : Nat) (x : LT), Gh k x = nq k x ↔ sm x = true
 | k, .leaf ps => by simp [Gh, nq, sm]
 | k, .br ks xs => by
  have := JG (k + 1) xs
  simp only [Gh, nq, sm, List.cons.injEq, Node.mk.injEq, true_and, and_true, Bool.and_eq_true, decide_eq_true_eq, this]
  constructor
  ·rintro ⟨a, b⟩; exact ⟨a.symm, b⟩
  ·rintro ⟨a, b⟩; exact ⟨a.symm, b⟩
theorem JG : ∀ (k : Nat) (xs : List LT), iw k xs = kZ k xs ↔ uW xs = true
 | k, [] => by simp [iw, kZ, uW]
 | k, x :: xs => by
  have h1 := Gg k x
  have h2 := JG (k + x.size) xs
  simp only [iw, kZ, uW, Bool.and_eq_true, <- h1, <- h2]
  constructor
  ·intro h
   exact List.append_inj h (by rw [lZ, gP])
  ·rintro ⟨a, b⟩
   rw [a, b]
end
mutual
theorem Gx : ∀ (k : Nat) (x : LT), hJ x -> ∀ n ∈ Gh k x, n.pairs.length <= 4 /\ n.keys.length <= 4 /\ n.kids.length <= 4
 | k, .leaf ps, h, n, hn => by
  simp only [Gh, List.mem_cons, List.not_mem_nil, or_false] at hn
  subst hn
  simp only [hJ] at h
  simp only [List.length_nil]
  omega
 | k, .br ks xs, h, n, hn => by
  simp only [Gh, List.mem_cons] at hn
  simp only [hJ] at h
  rcases hn with rfl | hn
  ·simp only [List.length_nil, List.length_map, List.length_tail, fq]
   omega
  ·exact JN (k + 1) xs h.2 n hn
theorem JN : ∀ (k : Nat) (xs : List LT), Dg xs -> ∀ n ∈ iw k xs, n.pairs.length <= 4 /\ n.keys.length <= 4 /\ n.kids.length <= 4
 | k, [], h, n, hn => by simp [iw] at hn
 | k, x :: xs, h, n, hn => by
  simp only [iw, List.mem_append] at hn
  rcases hn with hn | hn
  ·exact Gx k x h.1 n hn
  ·exact JN (k + x.size) xs h.2 n hn
end
mutual
theorem wz : ∀ (x : LT), hJ x -> full false x = true -> 0 <= aE x -> 2 ^ (x.hgt + 1) <= (prs x).length /\ ((x.hgt : Int) + 1 = aE x)
 | .leaf ps, _, h, _ => by
  simp only [full, Bool.false_and, Bool.or_false, Bool.and_eq_true, decide_eq_true_eq] at h
  simp only [prs, LT.hgt, aE]
  omega
 | .br ks [], o, _, _ => by simp only [hJ, List.length_nil] at o; omega
 | .br ks (x :: xs), o, h, d => by
  simp only [hJ, Dg, List.length_cons] at o
  simp only [full, sU, Bool.and_eq_true] at h
  simp only [aE, Fm] at d ⊢
  split at d
  ·omega
  ·rename_i d0
   split at d
   ·rename_i d1
    have a := wz x o.2.1 h.1 (by omega)
    have b := Ak x.hgt xs o.2.2 h.2 (by rw [a.2]; exact d1)
    rw [if_neg d0, if_pos d1]
    have e : max x.hgt (HR xs) = x.hgt := by
     have : xs ≠ [] := by intro e; rw [e] at o; simp at o
     rw [b.2 this, Nat.max_self]
    simp only [prs, vi, LT.hgt, HR, List.length_append, e]
    have hm : 1 * 2 ^ (x.hgt + 1) <= xs.length * 2 ^ (x.hgt + 1) := Nat.mul_le_mul_right _ (by omega)
    rw [show 1 + x.hgt + 1 = (x.hgt + 1) + 1 by omega, Nat.pow_succ]
    omega
   ·omega
theorem Ak : ∀ (d : Nat) (xs : List LT), Dg xs -> sU xs = true -> sj ((d : Int) + 1) xs = true -> xs.length * 2 ^ (d + 1) <= (vi xs).length /\ (xs ≠ [] -> HR xs = d)
 | d, [], _, _, _ => by simp [vi]
 | d, x :: xs, o, h, e => by
  simp only [Dg] at o
  simp only [sU, Bool.and_eq_true] at h
  simp only [sj, Bool.and_eq_true, beq_iff_eq] at e
  have a := wz x o.1 h.1 (by omega)
  have b := Ak d xs o.2 h.2 e.2
  have ed : x.hgt = d := by have := a.2; omega
  rw [ed] at a
  simp only [vi, List.length_append, List.length_cons, Nat.add_mul, Nat.one_mul]
  refine ⟨by omega, fun _ => ?_⟩
  simp only [HR]
  cases xs with
  | nil => simp [HR, ed]
  | cons y ys => rw [b.2 (by simp), ed, Nat.max_self]
end
def tOk (x : LT) : Bool := (full true x && decide (0 <= aE x)) && (Ov (prs x) && sm x)
theorem RI {ks : List ByteArray} {xs : List LT} {a b : Bool} : full a (.br ks xs) = full b (.br ks xs) := by simp only [full]
theorem VP {x : LT} (o : hJ x) (h1 : full true x = true) (h2 : 0 <= aE x) (h3 : Ov (prs x) = true) : x.hgt <= 12 := by
 cases x with
 | leaf ps => simp [LT.hgt]
 | br ks xs =>
  have a := (wz _ o (by rw [<- h1]; exact RI) h2).1
  unfold Ov at h3
  simp only [Bool.and_eq_true, decide_eq_true_eq] at h3
  by_cases c : (LT.br ks xs).hgt <= 12
  ·exact c
  ·have : 2 ^ 13 <= 2 ^ ((LT.br ks xs).hgt + 1) := Nat.pow_le_pow_right (by decide) (by omega)
   omega
theorem BT (x : LT) (o : hJ x) (hz : x.size <= 400) : oM ⟨nq 0 x⟩ = some (tOk x) := by
 have hs := size_pos x
 have hp := rB x o
 simp only [oM, wb, W.D, gP]
 rw [show ((x.size : Int) == 0) = false by rw [beq_eq_false_iff_ne]; omega, decide_eq_false (by omega), cond_false, cond_false, Ku x o (by omega)]
 simp only [W.D]
 by_cases c : x.hgt <= 12
 case neg =>
  rw [if_neg c]
  have : tOk x = false := by
   cases h : tOk x with
   | false => rfl
   | true =>
    unfold tOk at h
    simp only [Bool.and_eq_true, decide_eq_true_eq] at h
    exact absurd (VP o h.1.1 h.1.2 h.2.1) c
  rw [this]
  rfl
 rw [if_pos c]
 simp only [Bool.not_true, cond_false, W.D]
 rw [Tc x true o]
 simp only [W.D]
 unfold tOk
 cases h1 : full true x with
 | false => rfl
 | true =>
  simp only [Bool.not_true, cond_false, W.D]
  rw [Ta x o (by omega)]
  simp only [W.D]
  by_cases h2 : 0 <= aE x
  case neg => rw [decide_eq_true (by omega : aE x < 0), decide_eq_false h2]; rfl
  rw [decide_eq_false (by omega : ¬ aE x < 0), decide_eq_true h2]
  simp only [cond_false, W.D]
  rw [EC x o (by omega)]
  simp only [W.D]
  rw [Kl _ (by omega)]
  simp only [W.D, Bool.true_and]
  cases h3 : Ov (prs x) with
  | false => rfl
  | true =>
   simp only [Bool.not_true, cond_false, W.D, Bool.true_and]
   rw [Vh x o (by omega)]
   simp only [W.D, lZ]
   rw [show ((x.size : Int) != (x.size : Int)) = false by simp, cond_false]
   have hl := eX (Gh 0 x) (nq 0 x) (by rw [lZ]; omega) (by rw [lZ, gP]) (f := fun s => (nI ⟨nq 0 x⟩ (Gh 0 x) s).den) (fun k a b ha hb => by
    have hlt := (List.getElem?_eq_some_iff.1 ha).1
    have hn := Gx 0 x o a (List.mem_of_getElem? ha)
    rw [lZ] at hlt
    simp only [nI, W.D, lZ]
    rw [decide_eq_true (by omega : (k : Int) < (x.size : Int)), cond_true, ag ha]
    simp only [W.D]
    rw [ag hb]
    simp only [W.D]
    rw [Kv a b (by omega) (by omega) (by omega), an _ (by omega) (by omega)]
    simp only [W.D]
    cases decide (a = b) <;> rfl) (by
    simp only [nI, W.D, lZ]
    rw [decide_eq_false (by omega), cond_false])
   rw [hl]
   have e : decide (Gh 0 x = nq 0 x) = sm x := by
    rw [Bool.eq_iff_iff, decide_eq_true_eq]
    exact Gg 0 x
   rw [e]
   cases sm x <;> rfl
theorem Ko : oM ⟨[]⟩ = some true := by
 simp only [oM, wb, W.D]
 rfl
theorem MS {x : LT} (h : tOk x = true) : full true x = true /\ 0 <= aE x /\ Ov (prs x) = true /\ sm x = true := by
 unfold tOk at h
 simp only [Bool.and_eq_true, decide_eq_true_eq] at h
 exact ⟨h.1.1, h.1.2, h.2.1, h.2.2⟩
theorem Km (x : LT) (o : hJ x) (hz : x.size <= 400) (ht : tOk x = true) : lh ⟨nq 0 x⟩ = some (prs x) := by
 have hp := rB x o
 obtain ⟨h1, h2, h3, h4⟩ := MS ht
 simp only [lh, sd, W.D]
 rw [BT x o hz, ht]
 simp only [W.D, Bool.not_true, cond_false]
 rw [Ku x o (by omega), if_pos (VP o h1 h2 h3)]
 simp only [W.D]
 rw [EC x o (by omega)]
 rfl
theorem GW : lh ⟨[]⟩ = some [] := by
 simp only [lh, sd, W.D]
 rw [Ko]
 simp only [W.D, Bool.not_true, cond_false]
 have h : ll ⟨[]⟩ = some (⟨true, [], []⟩, true) := by
  simp only [ll, se, W.D]
  rfl
 rw [h]
 simp only [W.D]
 have h2 : ng ⟨true, [], []⟩ = some [] := by
  refine Mt 1 ?_ (fun k v' hk => ?_)
  ·show (cN (aW 0).1 (aW 0).2 ⟨true, [], []⟩).den = _
   simp only [cN, W.D]
   rw [if_pos (by simp), bq (t := []) (by simp only [dv, W.D]; rfl)]
   rfl
  ·cases k with
   | zero => cases hk
   | succ k =>
    have hk' : (cN (aW k).1 (aW k).2 ⟨true, [], []⟩).den = some v' := hk
    simp only [cN, W.D] at hk'
    rw [if_pos (by simp), bq (t := []) (by simp only [dv, W.D]; rfl)] at hk'
    exact (Option.some.inj hk').symm
 rw [h2]
 rfl
def jJ (ps : List az) (k : ByteArray) : ByteArray × Bool := match ps.find? (fun p => p.key.toList == k.toList) with
 | some p => (p.val, true)
 | none => (⟨#[]⟩, false)
theorem NH (ps : List az) (k : ByteArray) (hn : ps.length < 4611686018427387904) {f : Int -> Option (Int ⊕ (Unit ⊕ (ByteArray × Bool)))}
  (hs : ∀ (j : Nat) (x : az), ps[j]? = some x -> f (j : Int) = some (bif x.key.toList == k.toList then .inr (.inr (x.val, true)) else .inl ((j + 1 : Nat) : Int))) (he : f (ps.length : Int) = some (.inr (.inl ()))) :
  KO (aV f 0) (fun _ => some (⟨#[]⟩, false)) = some (jJ ps k) := by
 have h := rv (f := f) ps (fun _ x => if x.key.toList == k.toList then some (x.val, true) else none) (fun o => match o with | some t => .inr t | none => .inl ()) (by omega) (fun j x hj => by
  have hlt := (List.getElem?_eq_some_iff.1 hj).1
  rw [hs j x hj, an _ (by omega) (by omega)]
  cases x.key.toList == k.toList <;> rfl) (by rw [he])
 rw [h]
 unfold jJ
 have : ∀ (ps : List az) (i : Nat), lX (fun _ (x : az) => if x.key.toList == k.toList then some (x.val, true) else none) ps i = (ps.find? (fun p => p.key.toList == k.toList)).map fun p => (p.val, true) := by
  intro ps
  induction ps with
  | nil => intro i; rfl
  | cons p ps ih =>
   intro i
   simp only [lX, List.find?_cons]
   cases p.key.toList == k.toList with
   | true => rfl
   | false => simp only [Bool.false_eq_true, if_false]; exact ih (i + 1)
 rw [this]
 cases ps.find? (fun p => p.key.toList == k.toList) <;> rfl
theorem Kn {t : Tree} {ps : List az} (h : lh t = some ps) (hn : ps.length <= 1048576) (k : ByteArray) (hk : pU k = true) : lk t k = some (jJ ps k) := by
 simp only [lk, xB, W.D]
 rw [rH, hk]
 simp only [W.D, Bool.not_true, cond_false]
 rw [h]
 simp only [W.D]
 exact NH ps k (by omega) (f := fun s => (lH k ps s).den) (fun j x hj => by
  have hlt := (List.getElem?_eq_some_iff.1 hj).1
  simp only [lH, W.D]
  rw [decide_eq_true (by omega : (j : Int) < (ps.length : Int)), cond_true, ag hj]
  simp only [W.D]
  rw [an _ (by omega) (by omega)]
  cases x.key.toList == k.toList <;> rfl) (by
  simp only [lH, W.D]
  rw [decide_eq_false (by omega), cond_false])
theorem IN {t : Tree} {ps : List az} (h : kS t = some ps) (hn : ps.length <= 1048576) (k : ByteArray) : mT t k = some (jJ ps k) := by
 simp only [mT, xp, W.D]
 rw [h]
 simp only [W.D]
 exact NH ps k (by omega) (f := fun s => (lF k ps s).den) (fun j x hj => by
  have hlt := (List.getElem?_eq_some_iff.1 hj).1
  simp only [lF, W.D]
  rw [decide_eq_true (by omega : (j : Int) < (ps.length : Int)), cond_true, ag hj]
  simp only [W.D]
  rw [an _ (by omega) (by omega)]
  cases x.key.toList == k.toList <;> rfl) (by
  simp only [lF, W.D]
  rw [decide_eq_false (by omega), cond_false])
mutual
def twE : LT -> gi
 | .leaf ps => ⟨ps, []⟩
 | .br _ xs => ⟨[], yS xs⟩
def yS : List LT -> List R1
 | [] => []
 | x :: xs => wQ (twE x) :: yS xs
end
theorem vE : ∀ (xs : List LT), (yS xs).length = xs.length
 | [] => by simp [yS]
 | x :: xs => by simp only [yS, List.length_cons, vE xs]
theorem Ho : ∀ {xs : List LT} {k : Nat} {y : LT}, xs[k]? = some y -> (yS xs)[k]? = some (wQ (twE y))
 | [], k, y, h => by simp at h
 | x :: xs, 0, y, h => by simp only [List.getElem?_cons_zero, Option.some.injEq] at h; subst h; simp [yS]
 | x :: xs, k + 1, y, h => by simp only [List.getElem?_cons_succ] at h; simp only [yS, List.getElem?_cons_succ]; exact Ho h
theorem OP : ∀ (xs ys : List LT), yS (xs ++ ys) = yS xs ++ yS ys
 | [], ys => by simp [yS]
 | x :: xs, ys => by simp only [List.cons_append, yS, OP xs ys]
theorem Xj (a b : gi) (h : wQ a = wQ b) : a = b := by
 cases a; cases b
 simp only [wQ, R1.mk.injEq, C.fz.injEq, C.bx.injEq, List.cons.injEq, and_true] at h
 obtain ⟨h2, h3⟩ := h
 unfold lC at h2 h3
 injection h2 with _ h2
 injection h3 with _ h3
 rw [vc Ik h2, vc WA h3]
theorem YD (y : gi) : rdE wQ (wQ y) = some y := Wa Xj y
theorem IW (t : gi) : jY (some t) = some (decide (t.kids.length = 0)) := by
 simp only [jY, mH, W.D]
 congr 1
 rw [Bool.eq_iff_iff, beq_iff_eq, decide_eq_true_eq]
 omega
theorem TN : ∀ (x : LT), hJ x -> ∃ p ps, aV (fun s => (gn s).den) (some (twE x)) = some (some ⟨p :: ps, []⟩) /\ p.key = least x
 | .leaf [], h => by simp only [hJ, List.length_nil] at h; omega
 | .leaf (p :: ps), h => ⟨p, ps, by
   refine bq ?_
   simp only [twE, gn, W.D]
   rw [IW]
   rfl, by simp only [least]⟩
 | .br ks [], h => by simp only [hJ, List.length_nil] at h; omega
 | .br ks (x0 :: xr), h => by
  obtain ⟨p, ps, h1, h2⟩ := TN x0 (fu h.2 (by simp))
  refine ⟨p, ps, ?_, by simp only [least, Sy]; exact h2⟩
  rw [dL (s' := some (twE x0)) ?_]
  ·exact h1
  ·simp only [twE, gn, W.D]
   rw [IW]
   simp only [W.D, vE, List.length_cons]
   rw [decide_eq_false (by omega : ¬ xr.length + 1 = 0), show (0 : Int) = ((0 : Nat) : Int) from rfl, ag (Ho (show (x0 :: xr)[0]? = some x0 from rfl))]
   simp only [W.D, Bool.not_false, cond_true]
   rw [YD]
   rfl
theorem PB (x : LT) (h : hJ x) : lY (some (twE x)) = some (least x) := by
 obtain ⟨p, ps, h1, h2⟩ := TN x h
 simp only [lY, oW, W.D]
 rw [h1]
 simp only [W.D]
 rw [show (0 : Int) = ((0 : Nat) : Int) from rfl, gO]
 simp only [List.getElem?_cons_zero, W.D, h2]
theorem VQ : ∀ (k : Nat) (x : LT) (acc : List az), hJ x -> acc.length + (prs x).length <= 1048576 -> Opt (decide (x.hgt < k)) ((bH k).1 (some (twE x)) acc) (acc ++ prs x)
 | 0, x, acc, _, _ => .inr ⟨by simp, rfl⟩
 | k + 1, .leaf ps, acc, h, hz => by
  refine .val ?_
  show (fI (bH k).1 (bH k).2 (some (twE (.leaf ps))) acc).den = _
  simp only [prs] at hz
  simp only [twE, fI, W.D, prs]
  rw [bq (t := acc) (by
   simp only [gm, W.D, List.length_nil]
   rfl)]
  simp only [W.D]
  rw [if_pos (by omega)]
 | k + 1, .br ks xs, acc, h, hz => by
  show Opt _ (fI (bH k).1 (bH k).2 (some (twE (.br ks xs))) acc).den _
  simp only [hJ] at h
  simp only [prs] at hz ⊢
  obtain ⟨⟨h1, h2, h3⟩, h4⟩ := h
  simp only [twE, fI, W.D]
  refine Opt.bnd (v := acc ++ vi xs) ?_ (.val ?_)
  ·refine kf (f := fun s => (gm (some ⟨[], yS xs⟩) acc (bH k).1 (bH k).2 ⟨[], yS xs⟩ s).den) (fun j : Nat => ⟨acc ++ vi (xs.take j), (j : Int)⟩) (fun _ => acc ++ vi xs) xs.length (fun j hj => .inl ⟨?_, rfl⟩) ?_ (by simp [vi]) rfl
   ·have hg := List.getElem?_eq_getElem hj
    have hm := List.getElem_mem hj
    have hp := yC xs (j + 1)
    rw [<- aR hj, vj, List.length_append] at hp
    simp only [gm, W.D, vE]
    rw [decide_eq_true (by omega : (j : Int) < (xs.length : Int)), cond_true, ag (Ho hg)]
    simp only [W.D]
    rw [YD]
    simp only [W.D]
    refine ((VQ k xs[j] (acc ++ vi (xs.take j)) (fu h4 hm) (by rw [List.length_append]; omega)).mono (Az (ks := ks) hm)).bnd (.val ?_)
    rw [an _ (by omega) (by omega), <- aR hj, vj, List.append_assoc]
    rfl
   ·refine .val ?_
    simp only [gm, W.D, vE]
    rw [decide_eq_false (by omega : ¬ (xs.length : Int) < (xs.length : Int)), cond_false, List.take_length]
  ·rw [if_pos (by rw [List.length_append, List.length_nil]; omega), List.append_nil]
theorem NL (x : LT) (h : hJ x) (hz : (prs x).length <= 1048576) : rq (some (twE x)) [] = some (prs x) := pX x.hgt fun k => by
 have := VQ k x [] h (by simpa using hz)
 simpa using this
def HQ (x : LT) : Bool := (full false x && decide (0 <= aE x)) && sm x
def okK (d : Int) (ks : List ByteArray) (j : Nat) (y : LT) : Bool := HQ y && (decide (j = 0) || (decide (aE y = d) && decide (ks[j - 1]? = some (least y))))
theorem VV {d : Int} (hd : 0 <= d) {ks : List ByteArray} : ∀ (ys : List LT) (j : Nat), ks.length = j + ys.length -> gf (okK d ks) (j + 1) ys = ((sU ys && uW ys) && (sj d ys && decide (ks.drop j = ys.map least)))
 | [], j, h => by
  simp only [gf, sU, uW, sj, Bool.true_and, List.map_nil]
  rw [decide_eq_true (List.drop_eq_nil_of_le (by simp only [List.length_nil] at h; omega))]
 | y :: ys, j, h => by
  have hj : j < ks.length := by rw [h]; simp
  simp only [List.length_cons] at h
  simp only [gf, sU, uW, sj, List.map_cons]
  rw [VV hd ys (j + 1) (by omega), List.drop_eq_getElem_cons hj, Bool.eq_iff_iff]
  unfold okK HQ
  rw [show j + 1 - 1 = j from rfl, List.getElem?_eq_getElem hj]
  simp only [Bool.and_eq_true, Bool.or_eq_true, decide_eq_true_eq, beq_iff_eq, List.cons.injEq, Option.some.injEq]
  constructor
  ·rintro ⟨⟨⟨⟨a, b⟩, c⟩, e⟩, ⟨f, g⟩, i, l⟩
   rcases e with e | ⟨e1, e2⟩
   ·omega
   ·exact ⟨⟨⟨a, f⟩, c, g⟩, ⟨e1, i⟩, e2, l⟩
  ·rintro ⟨⟨⟨a, f⟩, c, g⟩, ⟨e1, i⟩, e2, l⟩
   exact ⟨⟨⟨⟨a, by omega⟩, c⟩, .inr ⟨e1, e2⟩⟩, ⟨f, g⟩, i, l⟩
theorem WM {ks : List ByteArray} {x0 : LT} {xr : List LT} (h : ks.length = xr.length) : gf (okK (aE x0) ks) 0 (x0 :: xr) = HQ (.br ks (x0 :: xr)) := by
 rw [Bool.eq_iff_iff]
 simp only [gf, HQ, Bool.and_eq_true, decide_eq_true_eq]
 simp only [full, sU, sm, uW, List.tail_cons, aE, Fm, Bool.and_eq_true, decide_eq_true_eq]
 by_cases hd : 0 <= aE x0
 ·rw [VV hd xr 0 (by omega), List.drop_zero, if_neg (by omega : ¬ aE x0 < 0)]
  unfold okK HQ
  simp only [Bool.and_eq_true, Bool.or_eq_true, decide_eq_true_eq]
  by_cases e : sj (aE x0) xr = true
  ·rw [if_pos e]
   constructor
   ·rintro ⟨⟨⟨⟨a, b⟩, c⟩, _⟩, ⟨f, g⟩, _, l⟩
    exact ⟨⟨⟨a, f⟩, by omega⟩, decide_eq_true l, c, g⟩
   ·rintro ⟨⟨⟨a, f⟩, b⟩, l, c, g⟩
    exact ⟨⟨⟨⟨a, hd⟩, c⟩, .inl trivial⟩, ⟨f, g⟩, e, of_decide_eq_true l⟩
  ·rw [if_neg e]
   constructor
   ·rintro ⟨_, _, g, _⟩; exact absurd g e
   ·rintro ⟨⟨_, b⟩, _⟩; omega
 ·rw [if_pos (by omega : aE x0 < 0)]
  unfold okK HQ
  simp only [Bool.and_eq_true, Bool.or_eq_true, decide_eq_true_eq]
  constructor
  ·rintro ⟨⟨⟨⟨_, b⟩, _⟩, _⟩, _⟩; exact absurd b hd
  ·rintro ⟨⟨_, b⟩, _⟩; omega
theorem HW {α : Type} {g : Nat -> α -> Bool} {xs : List α} {k : Nat} {y : α} (h : xs[k]? = some y) : gf g k (xs.drop k) = (g k y && gf g (k + 1) (xs.drop (k + 1))) := by
 obtain ⟨hk, rfl⟩ := List.getElem?_eq_some_iff.1 h
 rw [List.drop_eq_getElem_cons hk, gf]
def gr (root : Bool) (a : Nat) : LT -> Option gi × Int × Int × Bool
 | .leaf ps => (some ⟨ps, []⟩, ((a + 1 : Nat) : Int), 1, full root (.leaf ps))
 | .br ks xs => if HQ (.br ks xs) then (some (twE (.br ks xs)), ((a + (LT.br ks xs).size : Nat) : Int), aE (.br ks xs), true) else (none, 0, 0, false)
theorem Zl (a : Nat) (x : LT) : (gr false a x).2.2.2 = HQ x /\ (HQ x = true -> gr false a x = (some (twE x), ((a + x.size : Nat) : Int), aE x, true)) := by
 cases x with
 | leaf ps =>
  have e : HQ (.leaf ps) = full false (.leaf ps) := by simp [HQ, aE, sm]
  rw [e]
  refine ⟨rfl, fun h => ?_⟩
  simp only [gr, h, twE, LT.size, aE]
 | br ks xs =>
  simp only [gr]
  cases h : HQ (.br ks xs) with
  | true => exact ⟨by rw [if_pos rfl], fun _ => by rw [if_pos rfl]⟩
  | false => exact ⟨by simp, fun h => by cases h⟩
def YR (d : Int) : Nat -> Int
 | 0 => 0
 | _ + 1 => d
theorem RV (nodes : List Node) (hN : nodes.length <= 1048576) : ∀ (k : Nat) (x : LT) (a : Nat) (root : Bool), hJ x -> x.size <= 1048576 -> Pl nodes a (nq a x) -> Opt (decide (x.hgt < k)) ((aK k).1 ⟨nodes⟩ (a : Int) root) (gr root a x)
 | 0, x, a, root, _, _, _ => .inr ⟨by simp, rfl⟩
 | k + 1, .leaf ps, a, root, h, _, hp => by
  refine .val ?_
  show (eo (aK k).1 (aK k).2 ⟨nodes⟩ (a : Int) root).den = _
  simp only [hJ] at h
  have hg := hp 0 ⟨ps, [], []⟩ (by simp [nq])
  rw [Nat.add_zero] at hg
  have hlt := (List.getElem?_eq_some_iff.1 hg).1
  simp only [eo, W.D, gr]
  rw [decide_eq_false (by omega : ¬ (a : Int) >= (nodes.length : Int)), cond_false, ag hg]
  simp only [W.D, List.length_nil]
  rw [show (((0 : Nat) : Int) == 0) = true from rfl, cond_true]
  have hc : oA ps = some ps := by
   simp only [oA, qP, W.D, List.length_nil]
   rw [if_pos (by omega)]
  rw [hc]
  simp only [W.D, aC]
  rw [an _ (by omega) (by omega), decide_eq_true (by omega : (ps.length : Int) <= 4)]
  have e : full root (.leaf ps) = (bif root then true else decide (2 <= ps.length)) := by
   simp only [full]
   rw [decide_eq_true h.2]
   by_cases c : 2 <= ps.length
   ·rw [decide_eq_true c]; cases root <;> rfl
   ·rw [decide_eq_false c, decide_eq_true (by omega : ps.length = 1)]; cases root <;> rfl
  rw [e]
  cases root with
  | true =>
   rw [cond_true, cond_true, decide_eq_true (by omega : (ps.length : Int) >= 1)]
   rfl
  | false =>
   rw [cond_false, cond_false]
   by_cases c : 2 <= ps.length
   ·rw [decide_eq_true (by omega : (ps.length : Int) >= 2), decide_eq_true c]; rfl
   ·rw [decide_eq_false (by omega : ¬ (ps.length : Int) >= 2), decide_eq_false c]; rfl
 | k + 1, .br ks [], a, root, h, _, hp => by simp only [hJ, List.length_nil] at h; omega
 | k + 1, .br ks (x0 :: xr), a, root, h, hz, hp => by
  show Opt _ (eo (aK k).1 (aK k).2 ⟨nodes⟩ (a : Int) root).den _
  have hgood := WM (ks := ks) (x0 := x0) (xr := xr) (by have := h.1.2.2; simp only [List.length_cons] at this; omega)
  have hgr : gr root a (.br ks (x0 :: xr)) = if gf (okK (aE x0) ks) 0 (x0 :: xr) then (some (twE (.br ks (x0 :: xr))), ((a + (LT.br ks (x0 :: xr)).size : Nat) : Int), aE x0 + 1, true) else (none, 0, 0, false) := by
   simp only [gr]
   rw [hgood]
   cases hg : HQ (.br ks (x0 :: xr)) with
   | false => rfl
   | true =>
    rw [if_pos rfl, if_pos rfl]
    have : aE (.br ks (x0 :: xr)) = aE x0 + 1 := by
     unfold HQ at hg
     simp only [Bool.and_eq_true, decide_eq_true_eq] at hg
     have := hg.1.2
     simp only [aE, Fm] at this ⊢
     split at this
     ·omega
     ·rename_i h5
      split at this
      ·rename_i h6; rw [if_neg h5, if_pos h6]
      ·omega
    rw [this]
  have hlo := Lb x0
  have hhs := FB x0
  have hz0 : x0.size <= aP (x0 :: xr) := zu (by simp)
  have hxs : ∃ xs, xs = x0 :: xr := ⟨_, rfl⟩
  obtain ⟨xs, hxs⟩ := hxs
  rw [<- hxs] at h hz hp hgr hz0 ⊢
  have h0 : xs[0]? = some x0 := by rw [hxs]; rfl
  simp only [hJ] at h
  obtain ⟨⟨h1, h2, h3⟩, h4⟩ := h
  simp only [LT.size] at hz
  have hg := hp 0 ⟨[], ks, po (a + 1) xs⟩ (by simp [nq])
  rw [Nat.add_zero] at hg
  have hlt := (List.getElem?_eq_some_iff.1 hg).1
  simp only [eo, W.D]
  rw [decide_eq_false (by omega : ¬ (a : Int) >= (nodes.length : Int)), cond_false, ag hg]
  simp only [W.D, List.length_nil, fq, aC]
  rw [show ((xs.length : Int) == 0) = false by rw [beq_eq_false_iff_ne]; omega, decide_eq_true (by omega : (xs.length : Int) >= 2), decide_eq_true (by omega : (xs.length : Int) <= 4), an ((xs.length : Int) - 1) (by omega) (by omega), show ((ks.length : Int) != (xs.length : Int) - 1) = false by rw [bne_eq_false_iff_eq]; omega]
  simp only [cond_false, cond_true, Bool.not_true, W.D]
  rw [show decide (((0 : Nat) : Int) > 0) = false from rfl]
  simp only [cond_false, W.D]
  rw [an (a + 1 : Int) (by omega) (by omega), hgr]
  have hl : Opt (decide ((LT.br ks xs).hgt < k + 1)) (aV (fun s => (dH ⟨nodes⟩ (a : Int) root (aK k).1 (aK k).2 ⟨[], ks, po (a + 1) xs⟩ s).den) ⟨(a : Int) + 1, 0, 0, []⟩)
    (if gf (okK (aE x0) ks) 0 xs then .inl ⟨((a + 1 + aP xs : Nat) : Int), aE x0, yS xs⟩ else .inr (none, 0, 0, false)) := by
   refine kf (f := fun s => (dH ⟨nodes⟩ (a : Int) root (aK k).1 (aK k).2 ⟨[], ks, po (a + 1) xs⟩ s).den)
    (fun j : Nat => ⟨((a + 1 + aP (xs.take j) : Nat) : Int), YR (aE x0) j, (j : Int), yS (xs.take j)⟩) (fun j => if gf (okK (aE x0) ks) j (xs.drop j) then .inl ⟨((a + 1 + aP xs : Nat) : Int), aE x0, yS xs⟩ else .inr (none, 0, 0, false)) xs.length (fun j hj => ?_) ?_ (by simp [aP, yS, YR]) (by rw [List.drop_zero])
   ·have hgj := List.getElem?_eq_getElem hj
    have hm := List.getElem_mem hj
    have hsz := zu hm
    have IH := (RV nodes hN k xs[j] (a + 1 + aP (xs.take j)) false (fu h4 hm) (by omega) (VY hp hgj)).mono (d' := decide ((LT.br ks xs).hgt < k + 1)) (Az (ks := ks) hm)
    obtain ⟨g1, g2⟩ := Zl (a + 1 + aP (xs.take j)) xs[j]
    have key : Opt (decide ((LT.br ks xs).hgt < k + 1)) (dH ⟨nodes⟩ (a : Int) root (aK k).1 (aK k).2 ⟨[], ks, po (a + 1) xs⟩ ⟨((a + 1 + aP (xs.take j) : Nat) : Int), YR (aE x0) j, (j : Int), yS (xs.take j)⟩).den
      (if okK (aE x0) ks j xs[j] then .inl ⟨((a + 1 + aP (xs.take (j + 1)) : Nat) : Int), aE xs[j], ((j + 1 : Nat) : Int), yS (xs.take (j + 1))⟩ else .inr (.inr (none, 0, 0, false))) := by
     simp only [dH, W.D, fq]
     rw [decide_eq_true (by omega : (j : Int) < (xs.length : Int)), cond_true, ag (Gz hj)]
     simp only [W.D]
     rw [show (((a + 1 + aP (xs.take j) : Nat) : Int) != ((a + 1 + aP (xs.take j) : Nat) : Int)) = false by simp, cond_false]
     refine IH.bnd (.val ?_)
     cases hgd : HQ xs[j] with
     | false =>
      rw [hgd] at g1
      have : okK (aE x0) ks j xs[j] = false := by unfold okK; rw [hgd]; rfl
      rw [this, g1]
      rfl
     | true =>
      rw [g2 hgd]
      simp only [W.D, Bool.not_true, cond_false]
      have hok : okK (aE x0) ks j xs[j] = (decide (j = 0) || (decide (aE xs[j] = aE x0) && decide (ks[j - 1]? = some (least xs[j])))) := by unfold okK; rw [hgd, Bool.true_and]
      rw [hok]
      have fin : ∀ (b : Bool), (bif b then some (.inr (.inr ((none : Option gi), 0, 0, false))) else (if ((yS (xs.take j)).length + ([wQ (twE xs[j])] : List R1).length) * 8 <= 140737488355328 then some (.inl (⟨((a + 1 + aP (xs.take j) + xs[j].size : Nat) : Int), aE xs[j], IntKind.wrap .i64 ((j : Int) + 1), yS (xs.take j) ++ [wQ (twE xs[j])]⟩ : cW)) else none) : Option (cW ⊕ (iQ ⊕ (Option gi × Int × Int × Bool)))) =
        some (bif !b then .inl ⟨((a + 1 + aP (xs.take (j + 1)) : Nat) : Int), aE xs[j], ((j + 1 : Nat) : Int), yS (xs.take (j + 1))⟩ else .inr (.inr (none, 0, 0, false))) := by
       intro b
       rw [if_pos (by rw [vE, List.length_take]; simp only [List.length_cons, List.length_nil]; omega), an _ (by omega) (by omega), <- aR hj, kv, OP]
       cases b <;> simp [yS, Nat.add_assoc]
      cases j with
      | zero =>
       rw [decide_eq_true rfl, Bool.true_or]
       rw [show decide (((0 : Nat) : Int) > 0) = false from rfl]
       simp only [cond_false, W.D]
       exact fin false
      | succ j =>
       rw [decide_eq_true (by omega : ((j + 1 : Nat) : Int) > 0), decide_eq_false (by omega : ¬ j + 1 = 0), Bool.false_or]
       simp only [cond_true, YR]
       by_cases c2 : aE xs[j + 1] = aE x0
       case neg =>
        rw [show (aE xs[j + 1] != aE x0) = true by rw [bne_iff_ne]; exact c2, decide_eq_false c2, Bool.false_and]
        exact fin true
       rw [show (aE xs[j + 1] != aE x0) = false by rw [bne_eq_false_iff_eq]; exact c2, decide_eq_true c2, Bool.true_and]
       have hkj : j < ks.length := by omega
       simp only [cond_false, W.D]
       rw [an (((j + 1 : Nat) : Int) - 1) (by omega) (by omega), show (((j + 1 : Nat) : Int) - 1) = (j : Int) by omega, ag (List.getElem?_eq_getElem hkj)]
       simp only [W.D]
       rw [PB _ (fu h4 hm)]
       simp only [W.D]
       rw [yg, show j + 1 - 1 = j from rfl, List.getElem?_eq_getElem hkj]
       have := fin (!decide (ks[j] = least xs[j + 1]))
       rw [Bool.not_not] at this
       simp only [Option.some.injEq]
       exact this
    rw [HW hgj]
    cases hok : okK (aE x0) ks j xs[j] with
    | true =>
     rw [hok] at key
     left
     have : aE xs[j] = aE x0 := by
      cases j with
      | zero =>
       have e0 : xs[0] = x0 := by rw [hgj] at h0; exact Option.some.inj h0
       rw [e0]
      | succ j =>
       unfold okK at hok
       simp only [Bool.and_eq_true, Bool.or_eq_true, decide_eq_true_eq] at hok
       rcases hok.2 with e | e
       ·omega
       ·exact e.1
     rw [if_pos rfl, this] at key
     exact ⟨key, by rw [Bool.true_and]⟩
    | false =>
     rw [hok] at key
     right
     exact key
   ·refine .val ?_
    simp only [dH, W.D, fq]
    rw [decide_eq_false (by omega : ¬ (xs.length : Int) < (xs.length : Int)), cond_false, List.drop_length, List.take_length]
    obtain ⟨m, hm⟩ : ∃ m, xs.length = m + 1 := ⟨xs.length - 1, by omega⟩
    rw [hm]
    rfl
  cases ha : gf (okK (aE x0) ks) 0 xs with
  | false => rw [ha] at hl; exact hl.Yc
  | true =>
   rw [ha] at hl
   refine hl.YP (.val ?_)
   simp only [W.D, twE, LT.size]
   rw [an (aE x0 + 1) (by omega) (by omega), Nat.add_assoc]
   rfl
theorem WN (x : LT) : (gr true 0 x).2.2.2 = ((full true x && decide (0 <= aE x)) && sm x) /\ ((gr true 0 x).2.2.2 = true -> gr true 0 x = (some (twE x), (x.size : Int), aE x, true)) := by
 cases x with
 | leaf ps =>
  have e : (decide (0 <= aE (.leaf ps)) && sm (.leaf ps)) = true := by simp [aE, sm]
  rw [Bool.and_assoc, e, Bool.and_true]
  refine ⟨rfl, fun h => ?_⟩
  simp only [gr] at h
  simp only [gr, h, twE, LT.size, aE]
 | br ks xs =>
  have e : ((full true (.br ks xs) && decide (0 <= aE (.br ks xs))) && sm (.br ks xs)) = HQ (.br ks xs) := by
   unfold HQ
   rw [RI (a := true) (b := false)]
  rw [e]
  simp only [gr]
  cases h : HQ (.br ks xs) with
  | true => exact ⟨by rw [if_pos rfl], fun _ => by rw [if_pos rfl, Nat.zero_add]⟩
  | false => exact ⟨by simp, fun h => by simp at h⟩
theorem IS (x : LT) (o : hJ x) (hz : x.size <= 400) : fx ⟨nq 0 x⟩ = some (if tOk x then (some (twE x), aE x, true) else (none, 0, false)) := by
 have hs := size_pos x
 have hp := rB x o
 have hg : sY ⟨nq 0 x⟩ 0 true = some (gr true 0 x) := pX x.hgt fun k => RV _ (by rw [gP]; omega) k x 0 true o (by omega) (SQ x)
 obtain ⟨g1, g2⟩ := WN x
 simp only [fx, mr, W.D, gP]
 rw [show ((x.size : Int) == 0) = false by rw [beq_eq_false_iff_ne]; omega, cond_false, hg]
 simp only [W.D]
 have ht : tOk x = ((gr true 0 x).2.2.2 && Ov (prs x)) := by
  rw [g1]
  unfold tOk
  cases full true x <;> cases decide (0 <= aE x) <;> cases Ov (prs x) <;> cases sm x <;> rfl
 rw [ht]
 cases h : (gr true 0 x).2.2.2 with
 | false => rfl
 | true =>
  rw [g2 h]
  simp only [W.D, Bool.not_true, cond_false, Bool.true_and]
  rw [show ((x.size : Int) != (x.size : Int)) = false by simp, cond_false, NL x o (by omega)]
  simp only [W.D]
  rw [IJ _ (by omega)]
  simp only [W.D]
  cases Ov (prs x) <;> rfl
theorem Ly (x : LT) (o : hJ x) (hz : x.size <= 400) : rk ⟨nq 0 x⟩ = some (tOk x) := by
 simp only [rk, wa, W.D]
 rw [IS x o hz]
 simp only [W.D]
 cases tOk x <;> rfl
theorem DT : fx ⟨[]⟩ = some (none, 0, true) := by
 simp only [fx, mr, W.D]
 rfl
theorem IP : rk ⟨[]⟩ = some true := by
 simp only [rk, wa, W.D]
 rw [DT]
 rfl
theorem IM (x : LT) (o : hJ x) (hz : x.size <= 400) (ht : tOk x = true) : kS ⟨nq 0 x⟩ = some (prs x) := by
 have hp := rB x o
 simp only [kS, rZ, W.D]
 rw [IS x o hz, ht]
 simp only [W.D, if_true, Bool.not_true, cond_false, cond_true]
 have : wF (some (twE x)) = some (prs x) := by
  simp only [wF, zM, W.D]
  rw [show (some (twE x)).isSome = true from rfl]
  simp only [W.D, cond_true, if_true]
  rw [NL x o (by omega)]
  rfl
 rw [this]
 rfl
theorem FH : kS ⟨[]⟩ = some [] := by
 simp only [kS, rZ, W.D]
 rw [DT]
 simp only [W.D, Bool.not_true, cond_false]
 have : wF none = some [] := by
  simp only [wF, zM, W.D]
  rfl
 rw [this]
 rfl
def Lu (ps : List Int) (a : Int) : Bool := ps.any fun x => x == a
theorem GY (ps : List Int) (a : Int) (hn : ps.length < 4611686018427387904) : rN ps a = some (Lu ps a) := by
 have h := rv (f := fun s => (nK ps a s).den) ps (fun _ x => if x == a then some true else none) (fun o => match o with | some t => .inr t | none => .inl ()) (by omega) (fun k x hk => by
  have hlt := (List.getElem?_eq_some_iff.1 hk).1
  simp only [nK, W.D]
  rw [decide_eq_true (by omega : (k : Int) < (ps.length : Int)), cond_true, ag hk]
  simp only [W.D]
  cases x == a <;> rfl) (by
  simp only [nK, W.D]
  rw [decide_eq_false (by omega), cond_false])
 simp only [rN, CL, W.D]
 rw [h, DM]
 unfold Lu
 cases ps.any fun x => x == a <;> rfl
theorem FI (ps : List Int) (a : Int) (hn : ps.length < 4611686018427387904) : dg ps a = some (Lu ps a) := by
 have h := zh (fun x : Int => x == a) ps hn (f := fun s => (gw ps a s).den) (fun k x hk => by
  have hlt := (List.getElem?_eq_some_iff.1 hk).1
  simp only [gw, W.D]
  rw [decide_eq_true (by omega : (k : Int) < (ps.length : Int)), cond_true, ag hk]
  simp only [W.D]
  rw [an _ (by omega) (by omega), show (a == x) = (x == a) by rw [Bool.eq_iff_iff, beq_iff_eq, beq_iff_eq]; exact eq_comm]
  cases x == a <;> rfl) (by
  simp only [gw, W.D]
  rw [decide_eq_false (by omega), cond_false])
 simp only [dg, jF, qv, pa, W.D]
 exact h
def Qp (d : bp) (a : Int) : Option ch := if h : 0 <= a /\ a < d.sheets.length then (if (sn (sh0 (d.sheets[a.toNat]'(by omega)).bytes)).2 then some (sn (sh0 (d.sheets[a.toNat]'(by omega)).bytes)).1 else none) else none
theorem Xl {d : bp} {a : Int} {y : ch} (h : Qp d a = some y) : Eu y = true := by
 unfold Qp at h
 split at h
 ·split at h
  ·rename_i h1 h2
   refine (GG (b := sh0 (d.sheets[a.toNat]'(by omega)).bytes) (p := y) ?_).1
   rw [<- Option.some.inj h, <- h2]
  ·cases h
 ·cases h
def cA (F : Int -> List Int -> Option (LT × List Int)) : List Int -> List Int -> Option (List LT × List Int)
 | [], ps => some ([], ps)
 | c :: cs, ps => match F c ps with
  | none => none
  | some (x, qs) => match cA F cs qs with
   | none => none
   | some (xs, rs) => some (x :: xs, rs)
def kb (pg : Int -> Option ch) (F : Int -> List Int -> Option (LT × List Int)) (a : Int) (ps : List Int) : Option (LT × List Int) :=
 if Lu ps a = true \/ 400 <= ps.length then none else match pg a with
  | none => none
  | some y => if y.kids.length = 0 then some (.leaf (List.zipWith az.mk y.keys y.vals), ps ++ [a]) else match cA F y.kids (ps ++ [a]) with
   | none => none
   | some (xs, qs) => some (.br y.keys xs, qs)
def Ds (pg : Int -> Option ch) : Nat -> Int -> List Int -> Option (LT × List Int)
 | 0 => fun _ _ => none
 | f + 1 => kb pg (Ds pg f)
theorem Eh {F : Int -> List Int -> Option (LT × List Int)} (hF : ∀ c ps x qs, ps.length <= 400 -> F c ps = some (x, qs) -> qs.length = ps.length + x.size /\ qs.length <= 400) : ∀ (cs ps : List Int) (xs : List LT) (qs : List Int), ps.length <= 400 -> cA F cs ps = some (xs, qs) -> qs.length = ps.length + aP xs /\ qs.length <= 400 /\ xs.length = cs.length
 | [], ps, xs, qs, hp, h => by
  simp only [cA, Option.some.injEq, Prod.mk.injEq] at h
  obtain ⟨rfl, rfl⟩ := h
  exact ⟨by simp [aP], hp, rfl⟩
 | c :: cs, ps, xs, qs, hp, h => by
  simp only [cA] at h
  cases h1 : F c ps with
  | none => rw [h1] at h; cases h
  | some r =>
   obtain ⟨x, ts⟩ := r
   rw [h1] at h
   simp only at h
   obtain ⟨a1, a2⟩ := hF c ps x ts hp h1
   cases h2 : cA F cs ts with
   | none => rw [h2] at h; cases h
   | some r =>
    obtain ⟨ys, rs⟩ := r
    rw [h2] at h
    simp only [Option.some.injEq, Prod.mk.injEq] at h
    obtain ⟨rfl, rfl⟩ := h
    obtain ⟨b1, b2, b3⟩ := Eh hF cs ts ys rs a2 h2
    refine ⟨?_, b2, by simp [b3]⟩
    simp only [aP]
    omega
theorem zm {pg : Int -> Option ch} : ∀ (f : Nat) (c : Int) (ps : List Int) (x : LT) (qs : List Int), ps.length <= 400 -> Ds pg f c ps = some (x, qs) -> qs.length = ps.length + x.size /\ qs.length <= 400
 | 0, c, ps, x, qs, _, h => by cases h
 | f + 1, c, ps, x, qs, hp, h => by
  simp only [Ds, kb] at h
  split at h
  ·cases h
  ·rename_i h0
   split at h
   ·cases h
   ·rename_i y hy
    have hl : (ps ++ [c]).length = ps.length + 1 := by rw [List.length_append]; rfl
    split at h
    ·simp only [Option.some.injEq, Prod.mk.injEq] at h
     obtain ⟨rfl, rfl⟩ := h
     simp only [LT.size]
     omega
    ·split at h
     ·cases h
     ·rename_i xs rs hk
      simp only [Option.some.injEq, Prod.mk.injEq] at h
      obtain ⟨rfl, rfl⟩ := h
      obtain ⟨a1, a2, _⟩ := Eh (zm f) y.kids (ps ++ [c]) xs rs (by omega) hk
      simp only [LT.size]
      omega
theorem JJ {F : Int -> List Int -> Option (LT × List Int)} (hF : ∀ c ps x qs, F c ps = some (x, qs) -> hJ x) : ∀ (cs ps : List Int) (xs : List LT) (qs : List Int), cA F cs ps = some (xs, qs) -> Dg xs /\ xs.length = cs.length
 | [], ps, xs, qs, h => by
  simp only [cA, Option.some.injEq, Prod.mk.injEq] at h
  obtain ⟨rfl, rfl⟩ := h
  exact ⟨trivial, rfl⟩
 | c :: cs, ps, xs, qs, h => by
  simp only [cA] at h
  cases h1 : F c ps with
  | none => rw [h1] at h; cases h
  | some r =>
   obtain ⟨x, ts⟩ := r
   rw [h1] at h
   simp only at h
   cases h2 : cA F cs ts with
   | none => rw [h2] at h; cases h
   | some r =>
    obtain ⟨ys, rs⟩ := r
    rw [h2] at h
    simp only [Option.some.injEq, Prod.mk.injEq] at h
    obtain ⟨rfl, rfl⟩ := h
    obtain ⟨b1, b2⟩ := JJ hF cs ts ys rs h2
    exact ⟨⟨hF c ps x ts h1, b1⟩, by simp [b2]⟩
theorem Sz {pg : Int -> Option ch} (hpg : ∀ a y, pg a = some y -> Eu y = true) : ∀ (f : Nat) (c : Int) (ps : List Int) (x : LT) (qs : List Int), Ds pg f c ps = some (x, qs) -> hJ x
 | 0, c, ps, x, qs, h => by cases h
 | f + 1, c, ps, x, qs, h => by
  simp only [Ds, kb] at h
  split at h
  ·cases h
  ·split at h
   ·cases h
   ·rename_i y hy
    have hp := df (hpg c y hy)
    split at h
    ·rename_i h0
     simp only [Option.some.injEq, Prod.mk.injEq] at h
     obtain ⟨rfl, rfl⟩ := h
     have hn := jI hp
     rcases hp with g | g
     ·simp only [hJ, List.length_zipWith]
      have := g.2.2.1
      omega
     ·have := g.1; omega
    ·rename_i h0
     split at h
     ·cases h
     ·rename_i xs rs hk
      simp only [Option.some.injEq, Prod.mk.injEq] at h
      obtain ⟨rfl, rfl⟩ := h
      obtain ⟨a1, a2⟩ := JJ (Sz hpg f) y.kids (ps ++ [c]) xs rs hk
      rcases hp with g | g
      ·exact absurd (Gi g) h0
      ·have := g.1; have := g.2.1
       exact ⟨⟨by omega, by omega, by omega⟩, a1⟩
theorem pY {F G : Int -> List Int -> Option (LT × List Int)} {m : Nat} (hF : ∀ c ps x qs, ps.length <= 400 -> F c ps = some (x, qs) -> qs.length = ps.length + x.size /\ qs.length <= 400) (h : ∀ c ps, m <= ps.length -> ps.length <= 400 -> F c ps = G c ps) : ∀ (cs ps : List Int), m <= ps.length -> ps.length <= 400 -> cA F cs ps = cA G cs ps
 | [], ps, _, _ => rfl
 | c :: cs, ps, hm, hp => by
  simp only [cA]
  rw [<- h c ps hm hp]
  cases h1 : F c ps with
  | none => rfl
  | some r =>
   obtain ⟨x, qs⟩ := r
   have := hF c ps x qs hp h1
   simp only
   rw [pY hF h cs qs (by omega) this.2]
theorem BB {pg : Int -> Option ch} : ∀ (f g : Nat) (c : Int) (ps : List Int), ps.length <= 400 -> 401 <= f + ps.length -> 401 <= g + ps.length -> Ds pg f c ps = Ds pg g c ps
 | 0, g, c, ps, hp, h, _ => by omega
 | f + 1, 0, c, ps, hp, _, h => by omega
 | f + 1, g + 1, c, ps, hp, h1, h2 => by
  simp only [Ds, kb]
  split
  ·rfl
  ·rename_i h0
   have hl : (ps ++ [c]).length = ps.length + 1 := by rw [List.length_append]; rfl
   cases pg c with
   | none => rfl
   | some y =>
    simp only
    rw [pY (m := ps.length + 1) (zm f) (fun c' qs hq hq2 => BB f g c' qs hq2 (by omega) (by omega)) y.kids (ps ++ [c]) (by omega) (by omega)]
def gh (d : bp) : Int -> List Int -> Option (LT × List Int) := Ds (Qp d) 401
theorem Od (d : bp) (c : Int) (ps : List Int) : gh d c ps = kb (Qp d) (gh d) c ps := by
 show kb (Qp d) (Ds (Qp d) 400) c ps = _
 simp only [kb]
 split
 ·rfl
 ·rename_i h0
  have hl : (ps ++ [c]).length = ps.length + 1 := by rw [List.length_append]; rfl
  cases Qp d c with
  | none => rfl
  | some y =>
   simp only
   rw [pY (m := 1) (zm 400) (fun c' qs hq hq2 => BB 400 401 c' qs hq2 (by omega) (by omega)) y.kids (ps ++ [c]) (by omega) (by omega)]
   rfl
theorem qa {d : bp} {c : Int} {ps : List Int} {x : LT} {qs : List Int} (hp : ps.length <= 400) (h : gh d c ps = some (x, qs)) : qs.length = ps.length + x.size /\ qs.length <= 400 := zm 401 c ps x qs hp h
theorem Gl {d : bp} {c : Int} {ps : List Int} {x : LT} {qs : List Int} (h : gh d c ps = some (x, qs)) : hJ x := Sz (fun _ _ h => Xl h) 401 c ps x qs h
theorem Eg : ∀ (k : Nat) (xs : List LT) (y : LT), kZ k (xs ++ [y]) = kZ k xs ++ nq (k + aP xs) y
 | k, [], y => by simp [kZ, aP]
 | k, x :: xs, y => by simp only [List.cons_append, kZ, Eg (k + x.size) xs y, aP, Nat.add_assoc, List.append_assoc]
def zV (d : Bool) {α : Type} (o : Option α) (P : α -> Prop) : Prop := (∃ v, o = some v /\ P v) \/ (d = false /\ o = none)
theorem zV.bnd {d : Bool} {α β : Type} {o : Option α} {P : α -> Prop} {k : α -> Option β} {Q : β -> Prop} (h : zV d o P) (hk : ∀ v, P v -> zV d (k v) Q) : zV d (Mv.bnd o k) Q := by
 rcases h with ⟨v, h, hp⟩ | ⟨h, h2⟩
 ·rw [h]; exact hk v hp
 ·rw [h2]; exact .inr ⟨h, rfl⟩
theorem zV.mono {d d' : Bool} {α : Type} {o : Option α} {P : α -> Prop} (h : zV d o P) (hd : d' = true -> d = true) : zV d' o P := by
 rcases h with h | ⟨h, h2⟩
 ·exact .inl h
 ·refine .inr ⟨?_, h2⟩
  cases d' with
  | false => rfl
  | true => rw [hd rfl] at h; cases h
theorem zV.val {d : Bool} {α : Type} {o : Option α} {v : α} {P : α -> Prop} (h : o = some v) (hp : P v) : zV d o P := .inl ⟨v, h, hp⟩
theorem Oc {α : Type} {R : Nat -> Option α} {P : α -> Prop} (m : Nat) (h : ∀ k, zV (decide (m < k)) (R k) P) : ∃ v, lim R = some v /\ P v := by
 have hx : ∃ k v, R k = some v := by
  rcases h (m + 1) with ⟨v, h, _⟩ | ⟨h, _⟩
  ·exact ⟨_, v, h⟩
  ·rw [decide_eq_true (by omega)] at h; cases h
 unfold lim
 rw [dif_pos hx]
 rcases h hx.choose with ⟨v, h, hp⟩ | ⟨_, h⟩
 ·exact ⟨v, h, hp⟩
 ·obtain ⟨v', hv⟩ := hx.choose_spec
  rw [h] at hv; cases hv
theorem JU {σ τ : Type} {f : σ -> Option (σ ⊕ τ)} {d : Bool} {P : τ -> Prop} (I : Nat -> σ -> Prop) (n : Nat) (hs : ∀ j s, j < n -> I j s -> zV d (f s) (fun t => match t with | .inl s' => I (j + 1) s' | .inr t => P t))
  (hf : ∀ s, I n s -> zV d (f s) (fun t => match t with | .inl _ => False | .inr t => P t)) {s : σ} (h0 : I 0 s) : zV d (aV f s) P := by
 have : ∀ j, j <= n -> ∀ s, I (n - j) s -> zV d (aV f s) P := by
  intro j
  induction j with
  | zero =>
   intro _ s hi
   rw [Nat.sub_zero] at hi
   rcases hf s hi with ⟨v, h, hp⟩ | ⟨h, h2⟩
   ·cases v with
    | inl _ => exact hp.elim
    | inr t => exact .inl ⟨t, bq h, hp⟩
   ·exact .inr ⟨h, by rw [oG, h2]⟩
  | succ j ih =>
   intro hj s hi
   rcases hs (n - (j + 1)) s (by omega) hi with ⟨v, h, hp⟩ | ⟨h, h2⟩
   ·cases v with
    | inl s' =>
     rw [dL h]
     refine ih (by omega) s' ?_
     have hp' : I (n - (j + 1) + 1) s' := hp
     rwa [show n - (j + 1) + 1 = n - j by omega] at hp'
    | inr t => exact .inl ⟨t, bq h, hp⟩
   ·exact .inr ⟨h, by rw [oG, h2]⟩
 exact this n (Nat.le_refl n) s (by rwa [Nat.sub_self])
def stN (nodes : List Node) (p0 : List az) (k0 : List ByteArray) (xs : List LT) : List Node := nodes ++ [⟨p0, k0, po (nodes.length + 1) xs⟩] ++ kZ (nodes.length + 1) xs
theorem Hf (nodes : List Node) (p0 : List az) (k0 : List ByteArray) (xs : List LT) : (stN nodes p0 k0 xs).length = nodes.length + 1 + aP xs := by
 unfold stN
 rw [List.length_append, List.length_append, Br]
 rfl
theorem Tp (nodes : List Node) (p0 : List az) (k0 : List ByteArray) (xs : List LT) : aB (stN nodes p0 k0 xs) (nodes.length : Int) = some ⟨p0, k0, po (nodes.length + 1) xs⟩ := ag (Fy _ _ _)
theorem ON (nodes : List Node) (p0 : List az) (k0 : List ByteArray) (xs : List LT) (x : LT) {L : List Node}
  (hL : L = (stN nodes p0 k0 xs).set nodes.length ⟨p0, k0, po (nodes.length + 1) xs ++ [((stN nodes p0 k0 xs).length : Int)]⟩) : L.length = nodes.length + 1 + aP xs /\ L ++ nq L.length x = stN nodes p0 k0 (xs ++ [x]) := by
 have e : L = nodes ++ [⟨p0, k0, po (nodes.length + 1) (xs ++ [x])⟩] ++ kZ (nodes.length + 1) xs := by
  rw [hL, Hf, BF]
  exact wZ _ _ _ _ _ rfl
 have h1 : L.length = nodes.length + 1 + aP xs := by rw [hL, List.length_set, Hf]
 refine ⟨h1, ?_⟩
 rw [h1, e]
 unfold stN
 rw [Eg, List.append_assoc _ (kZ _ _)]
theorem By {F : Int -> List Int -> Option (LT × List Int)} {cs : List Int} {j : Nat} {c : Int} (h : cs[j]? = some c) (ps : List Int) : cA F (cs.drop j) ps = (match F c ps with
  | none => none
  | some (x, qs) => match cA F (cs.drop (j + 1)) qs with
   | none => none
   | some (xs, rs) => some (x :: xs, rs)) := by
 obtain ⟨hk, rfl⟩ := List.getElem?_eq_some_iff.1 h
 rw [List.drop_eq_getElem_cons hk, cA]
 all_goals rfl
theorem mb {d : bp} {c : Int} {ps : List Int} (h : Lu ps c = true \/ 400 <= ps.length \/ Qp d c = none) : gh d c ps = none := by
 rw [Od]
 unfold kb
 by_cases g : Lu ps c = true \/ 400 <= ps.length
 ·rw [if_pos g]
 ·rw [if_neg g]
  rcases h with h | h | h
  ·exact absurd (.inl h) g
  ·exact absurd (.inr h) g
  ·rw [h]
theorem JK {d : bp} {c : Int} {ps : List Int} {y : ch} (h1 : Lu ps c = false) (h2 : ps.length < 400) (h3 : Qp d c = some y) : gh d c ps = if y.kids.length = 0 then some (.leaf (List.zipWith az.mk y.keys y.vals), ps ++ [c]) else match cA (gh d) y.kids (ps ++ [c]) with
   | none => none
   | some (xs, qs) => some (.br y.keys xs, qs) := by
 rw [Od]
 unfold kb
 rw [if_neg (by rintro (g | g); rw [h1] at g; cases g; omega), h3]
 all_goals rfl
theorem OU {σ : Type} (mk : Int -> List az -> σ) (ks vs : List ByteArray) (hl : vs.length = ks.length) {f : σ -> Option (σ ⊕ List az)}
  (hs : ∀ (j : Nat) (x v : ByteArray), ks[j]? = some x -> vs[j]? = some v -> f (mk (j : Int) ((List.zipWith az.mk ks vs).take j)) = some (.inl (mk ((j + 1 : Nat) : Int) ((List.zipWith az.mk ks vs).take j ++ [⟨x, v⟩]))))
  (he : f (mk (ks.length : Int) (List.zipWith az.mk ks vs)) = some (.inr (List.zipWith az.mk ks vs))) : aV f (mk 0 []) = some (List.zipWith az.mk ks vs) := by
 have hz : (List.zipWith az.mk ks vs).length = ks.length := by rw [List.length_zipWith]; omega
 refine bI (f := f) (fun j => mk (j : Int) ((List.zipWith az.mk ks vs).take j)) ks.length (by simp) (fun j hj => ?_) ?_
 ·have e : (List.zipWith az.mk ks vs)[j]'(by omega) = ⟨ks[j], vs[j]'(by omega)⟩ := List.getElem_zipWith ..
  rw [hs j _ _ (List.getElem?_eq_getElem hj) (List.getElem?_eq_getElem (by omega)), <- aR (by omega : j < (List.zipWith az.mk ks vs).length), e]
 ·rw [List.take_of_length_le (by omega)]
  exact he
def OkD (d : bp) : Prop := dOk d = true /\ d.dirty = [] /\ ∀ s ∈ d.sheets, aJ s.bytes
theorem SO {d : bp} {c : Int} (h : 0 <= c /\ c < d.sheets.length) : Qp d c = if (sn (sh0 (d.sheets[c.toNat]'(by omega)).bytes)).2 then some (sn (sh0 (d.sheets[c.toNat]'(by omega)).bytes)).1 else none := by
 unfold Qp
 rw [dif_pos h]
theorem Oo {d : bp} {c : Int} (h : ¬ (0 <= c /\ c < d.sheets.length)) : Qp d c = none := by
 unfold Qp
 rw [dif_neg h]
def zS (d : bp) (c : Int) (nodes : List Node) (ps : List Int) (r : List Node × List Int × Bool) : Prop := match gh d c ps with
 | some (x, qs) => r = (nodes ++ nq nodes.length x, qs, true)
 | none => r = ([], [], false)
theorem Te (d : bp) (hd : OkD d) : ∀ (k : Nat) (c : Int) (nodes : List Node) (ps : List Int), nodes.length = ps.length -> ps.length <= 400 -> zV (decide (400 < k + ps.length)) ((cb k).1 d c nodes ps) (zS d c nodes ps)
 | 0, c, nodes, ps, _, hp => .inr ⟨by rw [decide_eq_false_iff_not]; omega, rfl⟩
 | k + 1, c, nodes, ps, hn, hp => by
  show zV _ (nn (cb k).1 (cb k).2 d c nodes ps).den _
  obtain ⟨hok, hdy, hB⟩ := hd
  obtain ⟨⟨g1, g2⟩, g3⟩ := dz hok
  have bad : ∀ {r : List Node × List Int × Bool}, gh d c ps = none -> r = ([], [], false) -> zS d c nodes ps r := fun h1 h2 => by unfold zS; rw [h1]; exact h2
  simp only [nn, W.D]
  by_cases hc : 0 <= c /\ c < d.sheets.length
  case neg =>
   rw [GQ d (by omega) (by rw [hdy]; decide) c (by omega)]
   simp only [W.D]
   rw [vp [] (fun x hx => by cases hx) (by decide)]
   simp only [W.D, Bool.not_false, cond_true]
   exact .val rfl (bad (mb (.inr (.inr (Oo hc)))) rfl)
  have hpg := SO hc
  have hm : d.sheets[c.toNat]'(by omega) ∈ d.sheets := List.getElem_mem (by omega)
  have hread := vo d hok hdy c.toNat (by omega)
  rw [Int.toNat_of_nonneg hc.1] at hread
  rw [hread]
  simp only [W.D]
  rw [vp _ (OI (hB _ hm)) (by rw [Hb (g3 _ hm)]; decide)]
  simp only [W.D, Bool.not_true, cond_false]
  obtain ⟨⟨y, ok⟩, hR⟩ : ∃ r, sn (sh0 (d.sheets[c.toNat]'(by omega)).bytes) = r := ⟨_, rfl⟩
  rw [hR] at hpg ⊢
  cases ok with
  | false =>
   simp only [Bool.not_false, cond_true, W.D]
   exact .val rfl (bad (mb (.inr (.inr hpg))) rfl)
  | true =>
  simp only [if_true] at hpg
  simp only [Bool.not_true, cond_false, W.D]
  rw [GY ps c (by omega)]
  simp only [W.D]
  cases hh : Lu ps c with
  | true => simp only [cond_true, W.D]; exact .val rfl (bad (mb (.inl hh)) rfl)
  | false =>
  simp only [cond_false, W.D]
  by_cases h4 : 400 <= ps.length
  ·rw [decide_eq_true (by omega : (nodes.length : Int) >= 400)]
   exact .val rfl (bad (mb (.inr (.inl h4))) rfl)
  rw [decide_eq_false (by omega : ¬ (nodes.length : Int) >= 400)]
  simp only [cond_false, W.D]
  have hV := JK hh (by omega) hpg
  have hyok := df (GG hR).1
  have hkn := jI hyok
  have hl1 : (ps ++ [c]).length = ps.length + 1 := by rw [List.length_append]; rfl
  have main : ∀ (q0 : List az) (k0 : List ByteArray), zV (decide (400 < k + 1 + ps.length)) (aV (fun s => (jb d c nodes ps (cb k).1 (cb k).2 (y, true) s).den) ⟨nodes ++ [(⟨q0, k0, []⟩ : Node)], ps ++ [c], 0⟩)
    (fun t => match cA (gh d) y.kids (ps ++ [c]) with
     | some (xs, rs) => t = .inl ⟨stN nodes q0 k0 xs, rs⟩
     | none => t = .inr ([], [], false)) := by
   intro q0 k0
   refine JU (fun (j : Nat) (s : fT) => ∃ xs qs, s = ⟨stN nodes q0 k0 xs, qs, (j : Int)⟩ /\ xs.length = j /\ qs.length = ps.length + 1 + aP xs /\ qs.length <= 400 /\
     cA (gh d) y.kids (ps ++ [c]) = (match cA (gh d) (y.kids.drop j) qs with
      | none => none
      | some (ys, rs) => some (xs ++ ys, rs))) y.kids.length (fun j s hj hI => ?_) (fun s hI => ?_) ⟨[], ps ++ [c], by simp [stN, po, kZ], rfl, by simp [aP], by omega, by
      rw [List.drop_zero]
      cases cA (gh d) y.kids (ps ++ [c]) <;> rfl⟩
   ·obtain ⟨xs, qs, rfl, e1, e2, e3, e4⟩ := hI
    have hg := List.getElem?_eq_getElem hj
    have hk4 : y.kids.length <= 4 := by
     rcases hyok with h | h
     ·rw [Gi h]; decide
     ·exact h.1.2
    rw [By hg] at e4
    simp only [jb, W.D]
    rw [decide_eq_true (by omega : (j : Int) < (y.kids.length : Int)), cond_true, ag hg]
    simp only [W.D]
    rw [Tp]
    simp only [W.D]
    rw [if_pos (by rw [fq]; simp only [List.length_cons, List.length_nil]; omega)]
    obtain ⟨L, hL⟩ : ∃ L, L = (stN nodes q0 k0 xs).set nodes.length ⟨q0, k0, po (nodes.length + 1) xs ++ [((stN nodes q0 k0 xs).length : Int)]⟩ := ⟨_, rfl⟩
    have hLl : L.length = nodes.length + 1 + aP xs := by rw [hL, List.length_set, Hf]
    rw [<- hL]
    refine ((Te d ⟨hok, hdy, hB⟩ k y.kids[j] L qs (by omega) e3).mono (d' := decide (400 < k + 1 + ps.length)) (fun g => by rw [decide_eq_true_eq] at g ⊢; omega)).bnd (fun v hv => ?_)
    unfold zS at hv
    cases hV2 : gh d y.kids[j] qs with
    | none =>
     rw [hV2] at hv e4
     simp only at hv e4
     subst hv
     refine .val rfl ?_
     simp only [Bool.not_false, cond_true]
     rw [e4]
     exact trivial
    | some r =>
     obtain ⟨x, ts⟩ := r
     rw [hV2] at hv e4
     simp only at hv e4
     subst hv
     have hlen := qa e3 hV2
     refine .val rfl ?_
     simp only [Bool.not_true]
     refine ⟨xs ++ [x], ts, ?_, by rw [List.length_append, e1]; rfl, by rw [kv]; omega, hlen.2, ?_⟩
     ·rw [(ON nodes q0 k0 xs x hL).2, an _ (by omega) (by omega)]
      rfl
     ·rw [e4]
      cases cA (gh d) (y.kids.drop (j + 1)) ts with
      | none => rfl
      | some r => obtain ⟨ys, rs⟩ := r; simp
   ·obtain ⟨xs, qs, rfl, e1, e2, e3, e4⟩ := hI
    rw [List.drop_length] at e4
    simp only [cA, List.append_nil] at e4
    simp only [jb, W.D]
    rw [decide_eq_false (by omega : ¬ (y.kids.length : Int) < (y.kids.length : Int)), cond_false]
    refine .val rfl ?_
    simp only
    rw [e4]
  have fin : ∀ (q0 : List az) (k0 : List ByteArray), (∀ xs rs, cA (gh d) y.kids (ps ++ [c]) = some (xs, rs) -> zS d c nodes ps (stN nodes q0 k0 xs, rs, true)) -> (cA (gh d) y.kids (ps ++ [c]) = none -> zS d c nodes ps ([], [], false)) ->
    zV (decide (400 < k + 1 + ps.length)) (KO (aV (fun s => (jb d c nodes ps (cb k).1 (cb k).2 (y, true) s).den) ⟨nodes ++ [(⟨q0, k0, []⟩ : Node)], ps ++ [c], 0⟩) fun j => some (j.v2, j.v3, true)) (zS d c nodes ps) := by
   intro q0 k0 h1 h2
   rcases main q0 k0 with ⟨v, hv, hP⟩ | ⟨hf, hv⟩
   ·rw [hv]
    cases hK : cA (gh d) y.kids (ps ++ [c]) with
    | none =>
     rw [hK] at hP
     simp only at hP
     subst hP
     exact .val rfl (h2 hK)
    | some r =>
     obtain ⟨xs, rs⟩ := r
     rw [hK] at hP
     simp only at hP
     subst hP
     exact .val rfl (h1 xs rs hK)
   ·rw [hv]; exact .inr ⟨hf, rfl⟩
  by_cases hk0 : y.kids.length = 0
  ·rw [if_pos hk0] at hV
   have hyl : dc y := by
    rcases hyok with h | h
    ·exact h
    ·have := h.1; omega
   have hkn2 : y.kids = [] := List.eq_nil_of_length_eq_zero hk0
   rw [decide_eq_false (by omega : ¬ (y.kids.length : Int) > 0), cond_false]
   rw [OU (σ := fS) (fun i l => ⟨i, l⟩) y.keys y.vals hyl.2.2.1 (f := fun s => (lL d c nodes ps (y, true) s).den) (fun j x v hx hv => by
    have hlt := (List.getElem?_eq_some_iff.1 hx).1
    simp only [lL, W.D]
    rw [decide_eq_true (by omega : (j : Int) < (y.keys.length : Int)), cond_true, ag hx]
    simp only [W.D]
    rw [ag hv]
    simp only [W.D]
    rw [if_pos (by rw [List.length_take]; simp only [List.length_cons, List.length_nil]; omega), an _ (by omega) (by omega)]
    rfl) (by
    simp only [lL, W.D]
    rw [decide_eq_false (by omega), cond_false])]
   simp only [W.D]
   rw [if_pos (by omega), if_pos (by simp only [List.length_cons, List.length_nil]; omega)]
   refine fin _ _ (fun xs rs hK => ?_) (fun hK => ?_)
   ·rw [hkn2] at hK
    simp only [cA, Option.some.injEq, Prod.mk.injEq] at hK
    obtain ⟨rfl, rfl⟩ := hK
    unfold zS
    rw [hV]
    simp [stN, nq, kZ, po]
   ·rw [hkn2] at hK
    cases hK
  ·rw [if_neg hk0] at hV
   rw [decide_eq_true (by omega : (y.kids.length : Int) > 0), cond_true]
   simp only [W.D]
   rw [if_pos (by omega), if_pos (by simp only [List.length_cons, List.length_nil]; omega)]
   refine fin _ _ (fun xs rs hK => ?_) (fun hK => ?_)
   ·rw [hK] at hV
    unfold zS
    rw [hV]
    simp only [stN, nq, List.append_assoc]
    rfl
   ·rw [hK] at hV
    exact bad hV rfl
theorem Tf (d : bp) (hd : OkD d) (c : Int) : ∃ r, BZ d c [] [] = some r /\ zS d c [] [] r := Oc 400 fun k => Te d hd k c [] [] rfl (by decide)
theorem Sf : ∀ (k : Nat) (r : Reader) (c : Int), r.bad = true -> zV (decide (0 < k)) ((aL k).1 r c) (fun v => v = r)
 | 0, r, c, h => .inr ⟨rfl, rfl⟩
 | k + 1, r, c, h => by
  show zV _ (cX (aL k).1 (aL k).2 r c).den _
  simp only [cX, W.D]
  rw [h]
  simp only [cond_true, W.D]
  exact .val rfl (by cases r; simp only at h; rw [h])
def EV (d : bp) (c : Int) (nodes : List Node) (ps : List Int) (r : Reader) : Prop := match gh d c ps with
 | some (x, qs) => r = ⟨d, nodes ++ nq nodes.length x, qs, false⟩
 | none => r.d = d /\ r.bad = true /\ r.nodes.length <= 400 /\ ∃ more, r.nodes = nodes ++ more
theorem Sg (d : bp) (hd : OkD d) : ∀ (k : Nat) (c : Int) (nodes : List Node) (ps : List Int), nodes.length = ps.length -> ps.length <= 400 -> zV (decide (400 < k + ps.length)) ((aL k).1 ⟨d, nodes, ps, false⟩ c) (EV d c nodes ps)
 | 0, c, nodes, ps, _, hp => .inr ⟨by rw [decide_eq_false_iff_not]; omega, rfl⟩
 | k + 1, c, nodes, ps, hn, hp => by
  show zV _ (cX (aL k).1 (aL k).2 ⟨d, nodes, ps, false⟩ c).den _
  obtain ⟨hok, hdy, hB⟩ := hd
  obtain ⟨⟨g1, g2⟩, g3⟩ := dz hok
  have bad : gh d c ps = none -> EV d c nodes ps ⟨d, nodes, ps, true⟩ := fun h1 => by unfold EV; rw [h1]; exact ⟨rfl, rfl, by simp only; omega, [], by simp⟩
  simp only [cX, W.D, aC]
  rw [cond_false, an ((d.sheets.length : Int) - 1) (by omega) (by omega)]
  by_cases hc : 0 <= c /\ c < d.sheets.length
  case neg =>
   have hw : (bif decide (c >= 0) then decide (c <= (d.sheets.length : Int) - 1) else false) = false := by
    by_cases h0 : c >= 0
    ·rw [decide_eq_true h0, decide_eq_false (by omega)]; rfl
    ·rw [decide_eq_false h0]; rfl
   rw [hw]
   simp only [Bool.not_false, cond_true, W.D]
   exact .val rfl (bad (mb (.inr (.inr (Oo hc)))))
  have hpg := SO hc
  have hm : d.sheets[c.toNat]'(by omega) ∈ d.sheets := List.getElem_mem (by omega)
  have hread := sD d hok hdy c.toNat (by omega)
  rw [Int.toNat_of_nonneg hc.1] at hread
  rw [decide_eq_true (by omega : c >= 0), decide_eq_true (by omega : c <= (d.sheets.length : Int) - 1)]
  simp only [Bool.not_true, cond_true, cond_false, W.D]
  rw [FI ps c (by omega)]
  simp only [W.D]
  cases hh : Lu ps c with
  | true => simp only [cond_true, W.D]; exact .val rfl (bad (mb (.inl hh)))
  | false =>
  simp only [cond_false, W.D]
  by_cases h4 : 400 <= ps.length
  ·rw [show ((nodes.length : Int) == 400) = true by rw [beq_iff_eq]; omega]
   exact .val rfl (bad (mb (.inr (.inl h4))))
  rw [show ((nodes.length : Int) == 400) = false by rw [beq_eq_false_iff_ne]; omega]
  simp only [cond_false, W.D]
  rw [hread]
  simp only [W.D]
  rw [FF _ (OI (hB _ hm)) (by rw [Hb (g3 _ hm)]; decide)]
  simp only [W.D]
  obtain ⟨⟨y, ok⟩, hR⟩ : ∃ r, sn (sh0 (d.sheets[c.toNat]'(by omega)).bytes) = r := ⟨_, rfl⟩
  rw [hR] at hpg ⊢
  cases ok with
  | false =>
   simp only [Bool.not_false, cond_true, W.D]
   exact .val rfl (bad (mb (.inr (.inr hpg))))
  | true =>
  simp only [if_true] at hpg
  simp only [Bool.not_true, cond_false, W.D]
  have hV := JK hh (by omega) hpg
  have hyok := df (GG hR).1
  have hkn := jI hyok
  have hl1 : (ps ++ [c]).length = ps.length + 1 := by rw [List.length_append]; rfl
  by_cases hk0 : y.kids.length = 0
  ·rw [if_pos hk0] at hV
   have hyl : dc y := by
    rcases hyok with h | h
    ·exact h
    ·have := h.1; omega
   rw [decide_eq_false (by omega : ¬ (y.kids.length : Int) > 0), cond_false]
   rw [OU (σ := cQ) (fun i l => ⟨i, l⟩) y.keys y.vals hyl.2.2.1 (f := fun s => (fb ⟨d, nodes, ps, false⟩ c (y, true) s).den) (fun j x v hx hv => by
    have hlt := (List.getElem?_eq_some_iff.1 hx).1
    have hvl := hyl.2.2.1
    simp only [fb, W.D]
    rw [decide_eq_true (by omega : (j : Int) < (y.vals.length : Int)), cond_true, ag hv]
    simp only [W.D]
    rw [ag hx]
    simp only [W.D]
    rw [if_pos (by rw [List.length_take]; simp only [List.length_cons, List.length_nil]; omega), an _ (by omega) (by omega)]
    rfl) (by
    have hvl := hyl.2.2.1
    simp only [fb, W.D]
    rw [decide_eq_false (by omega), cond_false])]
   simp only [W.D]
   rw [if_pos (by omega), if_pos (by simp only [List.length_cons, List.length_nil]; omega), bq (t := ⟨d.sheets, d.dirty, nodes ++ [⟨List.zipWith az.mk y.keys y.vals, [], []⟩], ps ++ [c], false⟩) (by
    simp only [pc, W.D]
    rw [decide_eq_false (by omega : ¬ (0 : Int) < (y.kids.length : Int)), cond_false])]
   refine .val rfl ?_
   unfold EV
   rw [hV]
   simp [nq]
  ·rw [if_neg hk0] at hV
   have hyk : db y := by
    rcases hyok with h | h
    ·exact absurd (Gi h) hk0
    ·exact h
   have hk4 := hyk.1
   rw [decide_eq_true (by omega : (y.kids.length : Int) > 0), cond_true, bq (t := ()) (by
    simp only [pb, W.D]
    rw [hyk.2.2.1]
    rfl)]
   simp only [W.D]
   rw [if_pos (by omega), if_pos (by simp only [List.length_cons, List.length_nil]; omega)]
   have main : zV (decide (400 < k + 1 + ps.length)) (aV (fun s => (fa ⟨d, nodes, ps, false⟩ c (aL k).1 (aL k).2 (y, true) s).den) ⟨0, d.sheets, d.dirty, nodes ++ [(⟨[], y.keys, []⟩ : Node)], ps ++ [c], false⟩)
     (fun t => EV d c nodes ps ⟨⟨t.cF, t.cG⟩, t.aO, t.gX, t.gb⟩) := by
    refine JU (fun (j : Nat) (s : cP) => s.v121 = (j : Int) /\ s.cF = d.sheets /\ s.cG = d.dirty /\
      ((∃ xs qs, s.aO = stN nodes [] y.keys xs /\ s.gX = qs /\ s.gb = false /\ xs.length = j /\ qs.length = ps.length + 1 + aP xs /\ qs.length <= 400 /\
       cA (gh d) y.kids (ps ++ [c]) = (match cA (gh d) (y.kids.drop j) qs with
        | none => none
        | some (ys, rs) => some (xs ++ ys, rs))) \/
       (s.gb = true /\ s.aO.length <= 400 /\ cA (gh d) y.kids (ps ++ [c]) = none /\ ∃ kk more, s.aO = nodes ++ [⟨[], y.keys, kk⟩] ++ more /\ kk.length = j))) y.kids.length (fun j s hj hI => ?_) (fun s hI => ?_) ⟨rfl, rfl, rfl, .inl ⟨[], ps ++ [c], by simp [stN, po, kZ], rfl, rfl, rfl, by simp [aP], by omega, by
       rw [List.drop_zero]
       cases cA (gh d) y.kids (ps ++ [c]) <;> rfl⟩⟩
    ·obtain ⟨sv, s0, s1, s2, s3, s4⟩ := s
     obtain ⟨e0, e1, e2, hI⟩ := hI
     simp only at e0 e1 e2 hI
     subst e0 e1 e2
     have hg := List.getElem?_eq_getElem hj
     have hdd : (⟨d.sheets, d.dirty⟩ : bp) = d := rfl
     simp only [fa, W.D]
     rw [decide_eq_true (by omega : (j : Int) < (y.kids.length : Int)), cond_true, ag hg]
     simp only [W.D]
     rcases hI with ⟨xs, qs, rfl, rfl, rfl, f1, f2, f3, f4⟩ | ⟨rfl, f1, f2, kk, more, rfl, f3⟩
     ·rw [By hg] at f4
      rw [Tp]
      simp only [W.D]
      rw [if_pos (by rw [fq]; simp only [List.length_cons, List.length_nil]; omega)]
      obtain ⟨L, hL⟩ : ∃ L, L = (stN nodes [] y.keys xs).set nodes.length ⟨[], y.keys, po (nodes.length + 1) xs ++ [((stN nodes [] y.keys xs).length : Int)]⟩ := ⟨_, rfl⟩
      have hLl : L.length = nodes.length + 1 + aP xs := by rw [hL, List.length_set, Hf]
      have hLe : L = nodes ++ [⟨[], y.keys, po (nodes.length + 1) xs ++ [((stN nodes [] y.keys xs).length : Int)]⟩] ++ kZ (nodes.length + 1) xs := by
       rw [hL]; exact wZ _ _ _ _ _ rfl
      rw [<- hL, hdd]
      refine ((Sg d ⟨hok, hdy, hB⟩ k y.kids[j] L s3 (by omega) f3).mono (d' := decide (400 < k + 1 + ps.length)) (fun g => by rw [decide_eq_true_eq] at g ⊢; omega)).bnd (fun v hv => ?_)
      unfold EV at hv
      rw [an _ (by omega) (by omega)]
      refine .val rfl ?_
      simp only
      cases hV2 : gh d y.kids[j] s3 with
      | none =>
       rw [hV2] at hv f4
       simp only at hv f4
       obtain ⟨h1, h2, h3, more, h5⟩ := hv
       refine ⟨rfl, by rw [h1], by rw [h1], .inr ⟨h2, h3, f4, po (nodes.length + 1) xs ++ [((stN nodes [] y.keys xs).length : Int)], kZ (nodes.length + 1) xs ++ more, ?_, by rw [List.length_append, fq, f1]; rfl⟩⟩
       rw [h5, hLe, List.append_assoc]
      | some r =>
       obtain ⟨x, ts⟩ := r
       rw [hV2] at hv f4
       simp only at hv f4
       subst hv
       have hlen := qa f3 hV2
       refine ⟨rfl, rfl, rfl, .inl ⟨xs ++ [x], ts, (ON nodes [] y.keys xs x hL).2, rfl, rfl, by rw [List.length_append, f1]; rfl, by rw [kv]; omega, hlen.2, ?_⟩⟩
       rw [f4]
       cases cA (gh d) (y.kids.drop (j + 1)) ts with
       | none => rfl
       | some r => obtain ⟨ys, rs⟩ := r; simp
     ·have hgm := ag (Fy nodes more (⟨[], y.keys, kk⟩ : Node))
      rw [hgm]
      simp only [W.D]
      rw [if_pos (by simp only [List.length_cons, List.length_nil]; omega), wZ _ _ _ _ _ rfl, hdd]
      refine ((Sf k _ _ rfl).mono (d' := decide (400 < k + 1 + ps.length)) (fun g => by rw [decide_eq_true_eq] at g ⊢; omega)).bnd (fun v hv => ?_)
      subst hv
      rw [an _ (by omega) (by omega)]
      refine .val rfl ?_
      simp only
      refine ⟨rfl, trivial, trivial, .inr ⟨trivial, ?_, f2, _, more, rfl, by rw [List.length_append, f3]; rfl⟩⟩
      simp only [List.length_append, List.length_cons, List.length_nil] at f1 ⊢
      exact f1
    ·obtain ⟨sv, s0, s1, s2, s3, s4⟩ := s
     obtain ⟨e0, e1, e2, hI⟩ := hI
     simp only at e0 e1 e2 hI
     subst e0 e1 e2
     simp only [fa, W.D]
     rw [decide_eq_false (by omega : ¬ (y.kids.length : Int) < (y.kids.length : Int)), cond_false]
     refine .val rfl ?_
     simp only
     unfold EV
     rcases hI with ⟨xs, qs, rfl, rfl, rfl, f1, f2, f3, f4⟩ | ⟨rfl, f1, f2, kk, more, rfl, f3⟩
     ·rw [List.drop_length] at f4
      simp only [cA, List.append_nil] at f4
      rw [f4] at hV
      rw [hV]
      simp only [stN, nq, List.append_assoc]
      rfl
     ·rw [f2] at hV
      rw [hV]
      exact ⟨rfl, rfl, f1, _, by rw [List.append_assoc]⟩
   exact main.bnd fun v hv => .val rfl hv
theorem Sh (d : bp) (hd : OkD d) (c : Int) : ∃ r, oB ⟨d, [], [], false⟩ c = some r /\ EV d c [] [] r := Oc 400 fun k => Sg d hd k c [] [] rfl (by decide)
theorem DK (xs ys : List az) (hn : xs.length < 4611686018427387904) : gU xs ys = some (decide (xs = ys)) := by
 simp only [gU, mL, W.D]
 by_cases l : xs.length = ys.length
 case neg => rw [show ((xs.length : Int) != (ys.length : Int)) = true by rw [bne_iff_ne]; omega, decide_eq_false (fun g => l (congrArg List.length g))]; rfl
 rw [show ((xs.length : Int) != (ys.length : Int)) = false by rw [bne_eq_false_iff_eq]; omega, cond_false, eX xs ys hn l (f := fun s => (fj xs ys s).den) (fun k x y hx hy => by
  have hlt := (List.getElem?_eq_some_iff.1 hx).1
  simp only [fj, W.D]
  rw [decide_eq_true (by omega : (k : Int) < (xs.length : Int)), cond_true, ag hx]
  simp only [W.D]
  rw [ag hy]
  simp only [W.D]
  rw [On, an _ (by omega) (by omega)]
  cases decide (x = y) <;> rfl) (by
  simp only [fj, W.D]
  rw [decide_eq_false (by omega), cond_false])]
 cases decide (xs = ys) <;> rfl
theorem RA (xs ys : List ByteArray) (hn : xs.length < 4611686018427387904) : gV xs ys = some (decide (xs = ys)) := by
 simp only [gV, jG, W.D]
 by_cases l : xs.length = ys.length
 case neg => rw [show ((xs.length : Int) != (ys.length : Int)) = true by rw [bne_iff_ne]; omega, decide_eq_false (fun g => l (congrArg List.length g))]; rfl
 rw [show ((xs.length : Int) != (ys.length : Int)) = false by rw [bne_eq_false_iff_eq]; omega, cond_false, eX xs ys hn l (f := fun s => (dO xs ys s).den) (fun k x y hx hy => by
  have hlt := (List.getElem?_eq_some_iff.1 hx).1
  simp only [dO, W.D]
  rw [decide_eq_true (by omega : (k : Int) < (xs.length : Int)), cond_true, ag hx]
  simp only [W.D]
  rw [ag hy]
  simp only [W.D]
  rw [yg, an _ (by omega) (by omega)]
  cases decide (x = y) <;> rfl) (by
  simp only [dO, W.D]
  rw [decide_eq_false (by omega), cond_false])]
 cases decide (xs = ys) <;> rfl
theorem Sl (x y : Int) : (x != y) = !decide (x = y) := by
 by_cases e : x = y
 ·rw [show (x != y) = false by rw [bne_eq_false_iff_eq]; exact e, decide_eq_true e]; rfl
 ·rw [show (x != y) = true by rw [bne_iff_ne]; exact e, decide_eq_false e]; rfl
theorem An (xs ys : List Int) (hn : xs.length < 4611686018427387904) : ga xs ys = some (decide (xs = ys)) := by
 simp only [ga, oZ, W.D]
 by_cases l : xs.length = ys.length
 case neg => rw [show ((xs.length : Int) != (ys.length : Int)) = true by rw [bne_iff_ne]; omega, decide_eq_false (fun g => l (congrArg List.length g))]; rfl
 rw [show ((xs.length : Int) != (ys.length : Int)) = false by rw [bne_eq_false_iff_eq]; omega, cond_false, eX xs ys hn l (f := fun s => (gu xs ys s).den) (fun k x y hx hy => by
  have hlt := (List.getElem?_eq_some_iff.1 hx).1
  simp only [gu, W.D]
  rw [decide_eq_true (by omega : (k : Int) < (xs.length : Int)), cond_true, ag hx]
  simp only [W.D]
  rw [ag hy]
  simp only [W.D]
  rw [Sl, an _ (by omega) (by omega)]
  cases decide (x = y) <;> rfl) (by
  simp only [gu, W.D]
  rw [decide_eq_false (by omega), cond_false])]
 cases decide (xs = ys) <;> rfl
theorem Kp (xs ys : List Int) (hn : xs.length < 4611686018427387904) : gR xs ys = some (decide (xs = ys)) := by
 simp only [gR, mJ, W.D]
 by_cases l : xs.length = ys.length
 case neg => rw [show ((xs.length : Int) != (ys.length : Int)) = true by rw [bne_iff_ne]; omega, decide_eq_false (fun g => l (congrArg List.length g))]; rfl
 rw [show ((xs.length : Int) != (ys.length : Int)) = false by rw [bne_eq_false_iff_eq]; omega, cond_false, eX xs ys hn l (f := fun s => (fg xs ys s).den) (fun k x y hx hy => by
  have hlt := (List.getElem?_eq_some_iff.1 hx).1
  simp only [fg, W.D]
  rw [decide_eq_true (by omega : (k : Int) < (xs.length : Int)), cond_true, ag hx]
  simp only [W.D]
  rw [ag hy]
  simp only [W.D]
  rw [Sl, an _ (by omega) (by omega)]
  cases decide (x = y) <;> rfl) (by
  simp only [fg, W.D]
  rw [decide_eq_false (by omega), cond_false])]
 cases decide (xs = ys) <;> rfl
theorem UT (a b : Node) : decide (a = b) = (decide (a.pairs = b.pairs) && (decide (a.keys = b.keys) && decide (a.kids = b.kids))) := by
 rw [<- Bool.decide_and, <- Bool.decide_and]
 congr 1
 rw [eq_iff_iff]
 cases a; cases b
 simp
theorem WO (a b : Node) (h1 : a.pairs.length <= 1048576) (h2 : a.keys.length <= 1048576) (h3 : a.kids.length <= 1048576) : jX a b = some (decide (a = b)) := by
 simp only [jX, mF, W.D]
 rw [DK _ _ (by omega), RA _ _ (by omega), An _ _ (by omega), UT]
 simp only [W.D]
 cases decide (a.pairs = b.pairs) <;> cases decide (a.keys = b.keys) <;> cases decide (a.kids = b.kids) <;> rfl
theorem QA (xs ys : List Node) (hn : xs.length < 4611686018427387904) (hx : ∀ n ∈ xs, n.pairs.length <= 4 /\ n.keys.length <= 4 /\ n.kids.length <= 4) : gS ⟨xs⟩ ⟨ys⟩ = some (decide (xs = ys)) := by
 simp only [gS, mK, W.D]
 by_cases l : xs.length = ys.length
 case neg => rw [show ((xs.length : Int) != (ys.length : Int)) = true by rw [bne_iff_ne]; omega, decide_eq_false (fun g => l (congrArg List.length g))]; rfl
 rw [show ((xs.length : Int) != (ys.length : Int)) = false by rw [bne_eq_false_iff_eq]; omega, cond_false, eX xs ys hn l (f := fun s => (fh ⟨xs⟩ ⟨ys⟩ s).den) (fun k x y h1 h2 => by
  have hlt := (List.getElem?_eq_some_iff.1 h1).1
  have hb := hx x (List.mem_of_getElem? h1)
  simp only [fh, W.D]
  rw [decide_eq_true (by omega : (k : Int) < (xs.length : Int)), cond_true, ag h1]
  simp only [W.D]
  rw [ag h2]
  simp only [W.D]
  rw [Kv x y (by omega) (by omega) (by omega), an _ (by omega) (by omega)]
  simp only [W.D]
  cases decide (x = y) <;> rfl) (by
  simp only [fh, W.D]
  rw [decide_eq_false (by omega), cond_false])]
 cases decide (xs = ys) <;> rfl
theorem PE (xs ys : List Node) (hn : xs.length < 4611686018427387904) (hx : ∀ n ∈ xs, n.pairs.length <= 4 /\ n.keys.length <= 4 /\ n.kids.length <= 4) : mU ⟨xs⟩ ⟨ys⟩ = some (decide (xs = ys)) := by
 simp only [mU, tE, aZ, aY, W.D]
 by_cases l : xs.length = ys.length
 case neg => rw [show ((xs.length : Int) != (ys.length : Int)) = true by rw [bne_iff_ne]; omega, decide_eq_false (fun g => l (congrArg List.length g))]; rfl
 rw [show ((xs.length : Int) != (ys.length : Int)) = false by rw [bne_eq_false_iff_eq]; omega, cond_false, eX xs ys hn l (f := fun s => (aF xs ys s).den) (fun k x y h1 h2 => by
  have hlt := (List.getElem?_eq_some_iff.1 h1).1
  have hb := hx x (List.mem_of_getElem? h1)
  simp only [aF, W.D]
  rw [decide_eq_true (by omega : (k : Int) < (xs.length : Int)), cond_true, ag h1]
  simp only [W.D]
  rw [ag h2]
  simp only [W.D]
  rw [WO x y (by omega) (by omega) (by omega), an _ (by omega) (by omega)]
  simp only [W.D]
  cases decide (x = y) <;> rfl) (by
  simp only [aF, W.D]
  rw [decide_eq_false (by omega), cond_false])]
 cases decide (xs = ys) <;> rfl
theorem Em {b : List Int} : 0 <= (pn b).1.root := by
 unfold pn
 split
 ·split
  ·rename_i h
   simp only [Bool.and_eq_true] at h
   exact (rz h.1).2.2.1
  ·simp
 ·simp
theorem Ka {r : Meta × Bool} {k g0 r0 : Int} (h1 : 0 <= r.1.root) (h2 : 0 <= r0) : 0 <= (pick r k g0 r0).root := by
 unfold pick
 cases r.2 && ((Int.tmod r.1.gen 2 == k) && decide (r.1.gen > g0)) with
 | true => exact h1
 | false => exact h2
theorem DH {d : bp} (h : 2 <= d.sheets.length) : 0 <= (oq d h).root := by
 unfold oq
 exact Ka Em (Ka Em (by omega))
def SJ (d : bp) (root : Int) : Option (List Node × List Int) := if root > 0 then (match gh d root [] with
 | some (x, qs) => if tOk x = true then some (nq 0 x, qs) else none
 | none => none) else some ([], [])
def st0 : cj := ⟨⟨[], []⟩, 0, ⟨[]⟩, []⟩
def cB (d : bp) : cj × Int :=
 if h : dOk d = true /\ d.dirty = [] then
  if (oq d (dz h.1).1.1).gen > 0 then (match SJ d (oq d (dz h.1).1.1).root with
   | some (ns, qs) => (⟨d, (oq d (dz h.1).1.1).gen, ⟨ns⟩, qs⟩, 0)
   | none => (st0, 3))
  else (st0, 2)
 else (st0, 1)
theorem vz {d : bp} (h : ¬ (dOk d = true /\ d.dirty = [])) : cB d = (st0, 1) := by unfold cB; rw [dif_neg h]
theorem Hg {d : bp} (h : dOk d = true /\ d.dirty = []) : cB d = (if (oq d (dz h.1).1.1).gen > 0 then (match SJ d (oq d (dz h.1).1.1).root with
   | some (ns, qs) => (⟨d, (oq d (dz h.1).1.1).gen, ⟨ns⟩, qs⟩, 0)
   | none => (st0, 3))
  else (st0, 2) : cj × Int) := by unfold cB; rw [dif_pos h]
theorem Dy (d : bp) (hB : ∀ s ∈ d.sheets, aJ s.bytes) (hO : pd 1048576 d) : oL d = some (cB d) := by
 have h1 : d.sheets.length <= 1048576 := hO.1.1
 have h2 : d.dirty.length <= 1048576 := hO.2.1
 simp only [oL, qU, W.D]
 rw [tm d h1 h2]
 simp only [W.D]
 cases hok : dOk d with
 | false => rw [vz (by rw [hok]; simp)]; rfl
 | true =>
 simp only [Bool.not_true, cond_false, W.D]
 by_cases hdy : d.dirty = []
 case neg =>
  have : d.dirty.length ≠ 0 := fun g => hdy (List.eq_nil_of_length_eq_zero g)
  rw [decide_eq_true (by omega : (d.dirty.length : Int) > 0), vz (by rintro ⟨_, g⟩; exact hdy g)]
  rfl
 have h : dOk d = true /\ d.dirty = [] := ⟨hok, hdy⟩
 rw [hdy, show decide ((([] : List bc).length : Int) > 0) = false from rfl, Hg h, GP d hok hdy hB (dz h.1).1.1]
 simp only [cond_false, W.D]
 have hroot := DH (dz h.1).1.1
 generalize oq d (dz h.1).1.1 = m at hroot ⊢
 by_cases hg : m.gen > 0
 case neg => rw [decide_eq_false hg, if_neg hg]; rfl
 rw [decide_eq_true hg, if_pos hg, Kr d hO]
 simp only [Bool.not_true, cond_false, W.D]
 unfold SJ
 by_cases hr : m.root > 0
 case neg => rw [show (m.root == 0) = true by rw [beq_iff_eq]; omega, if_neg hr]; rfl
 rw [show (m.root == 0) = false by rw [beq_eq_false_iff_ne]; omega, if_pos hr]
 simp only [cond_false, W.D]
 obtain ⟨r, h3, h4⟩ := Tf d ⟨hok, hdy, hB⟩ m.root
 rw [h3]
 simp only [W.D]
 unfold zS at h4
 cases hV : gh d m.root [] with
 | none => rw [hV] at h4; simp only at h4; subst h4; rfl
 | some v =>
  obtain ⟨x, qs⟩ := v
  rw [hV] at h4
  simp only at h4
  subst h4
  have hlen := qa (by simp) hV
  simp only [Bool.not_true, cond_false, W.D, List.nil_append, List.length_nil]
  rw [BT x (Gl hV) (by simp only [List.length_nil] at hlen; omega)]
  simp only [W.D]
  cases tOk x <;> rfl
theorem Dl (d : bp) (hB : ∀ s ∈ d.sheets, aJ s.bytes) (hO : pd 1048576 d) : oz d = some (cB d) := by
 have h1 : d.sheets.length <= 1048576 := hO.1.1
 have h2 : d.dirty.length <= 1048576 := hO.2.1
 simp only [oz, qN, W.D]
 rw [AB d h1 h2]
 simp only [W.D]
 cases hok : dOk d with
 | false => rw [vz (by rw [hok]; simp)]; rfl
 | true =>
 simp only [Bool.not_true, cond_false, W.D]
 by_cases hdy : d.dirty = []
 case neg =>
  have : d.dirty.length ≠ 0 := fun g => hdy (List.eq_nil_of_length_eq_zero g)
  rw [decide_eq_true (by omega : (d.dirty.length : Int) > 0), vz (by rintro ⟨_, g⟩; exact hdy g)]
  rfl
 have h : dOk d = true /\ d.dirty = [] := ⟨hok, hdy⟩
 rw [show decide ((d.dirty.length : Int) > 0) = false by rw [hdy]; rfl, Hg h, FC d hok hdy hB (dz h.1).1.1]
 simp only [cond_false, W.D]
 have hroot := DH (dz h.1).1.1
 generalize oq d (dz h.1).1.1 = m at hroot ⊢
 by_cases hg : m.gen > 0
 case neg => rw [decide_eq_false hg, if_neg hg]; rfl
 rw [decide_eq_true hg, if_pos hg]
 simp only [Bool.not_true, cond_false, W.D]
 unfold SJ
 by_cases hr : m.root > 0
 case neg =>
  rw [decide_eq_false hr, if_neg hr]
  simp only [cond_false, W.D]
  rw [IP]
  simp only [W.D, Bool.not_true, cond_false]
  rw [uD d hO]
  rfl
 rw [decide_eq_true hr, if_pos hr]
 simp only [cond_true, W.D]
 obtain ⟨r, h3, h4⟩ := Sh d ⟨hok, hdy, hB⟩ m.root
 rw [h3]
 simp only [W.D]
 unfold EV at h4
 cases hV : gh d m.root [] with
 | none =>
  rw [hV] at h4
  simp only at h4
  rw [h4.2.1]
  rfl
 | some v =>
  obtain ⟨x, qs⟩ := v
  rw [hV] at h4
  simp only at h4
  subst h4
  have hlen := qa (by simp) hV
  simp only [cond_false, W.D, List.nil_append, List.length_nil]
  rw [Ly x (Gl hV) (by simp only [List.length_nil] at hlen; omega)]
  simp only [W.D]
  cases ht : tOk x with
  | false => rfl
  | true =>
   simp only [Bool.not_true, cond_false, W.D, if_true]
   rw [uD d hO]
   rfl
def Nt (t : Tree) (ps : List az) : Prop := (t = ⟨[]⟩ /\ ps = []) \/ ∃ x, hJ x /\ x.size <= 400 /\ tOk x = true /\ t = ⟨nq 0 x⟩ /\ ps = prs x
theorem Cd {d : bp} (h : (cB d).2 = 0) : (∃ ps, Nt (cB d).1.tree ps) /\ (cB d).1.places.length <= 400 := by
 by_cases h1 : dOk d = true /\ d.dirty = []
 case neg => rw [vz h1] at h; cases h
 rw [Hg h1] at h ⊢
 generalize oq d (dz h1.1).1.1 = m at h ⊢
 by_cases hg : m.gen > 0
 case neg => rw [if_neg hg] at h; cases h
 rw [if_pos hg] at h ⊢
 unfold SJ at h ⊢
 by_cases hr : m.root > 0
 case neg => rw [if_neg hr]; exact ⟨⟨[], .inl ⟨rfl, rfl⟩⟩, by simp⟩
 rw [if_pos hr] at h ⊢
 cases hV : gh d m.root [] with
 | none => rw [hV] at h; cases h
 | some v =>
  obtain ⟨x, qs⟩ := v
  rw [hV] at h
  simp only at h ⊢
  have hlen := qa (by simp) hV
  simp only [List.length_nil] at hlen
  cases ht : tOk x with
  | false => rw [ht] at h; cases h
  | true => exact ⟨⟨prs x, .inr ⟨x, Gl hV, by omega, ht, by simp, rfl⟩⟩, by simp only [if_true]; omega⟩
theorem Nt.nodes {t : Tree} {ps : List az} (h : Nt t ps) : t.nodes.length <= 400 /\ ∀ n ∈ t.nodes, n.pairs.length <= 4 /\ n.keys.length <= 4 /\ n.kids.length <= 4 := by
 rcases h with ⟨rfl, _⟩ | ⟨x, o, hz, ht, rfl, _⟩
 ·exact ⟨by simp, fun n hn => by cases hn⟩
 ·refine ⟨by rw [gP]; exact hz, fun n hn => ?_⟩
  simp only at hn
  rw [<- (Gg 0 x).2 (MS ht).2.2.2] at hn
  exact Gx 0 x o n hn
def Vp (s : cj) : Bool := decide ((cB s.disk).2 = 0) && (decide ((cB s.disk).1.gen = s.gen) && (decide ((cB s.disk).1.tree.nodes = s.tree.nodes) && decide ((cB s.disk).1.places = s.places)))
theorem Xq {s : cj} (h : Vp s = true) : ∃ ps, Nt s.tree ps := by
 unfold Vp at h
 simp only [Bool.and_eq_true, decide_eq_true_eq] at h
 obtain ⟨ps, hp⟩ := (Cd h.1).1
 refine ⟨ps, ?_⟩
 have : (cB s.disk).1.tree = s.tree := by
  have := h.2.2.1
  cases h1 : (cB s.disk).1.tree
  cases h2 : s.tree
  rw [h1, h2] at this
  simp only at this
  rw [this]
 rwa [this] at hp
theorem yI (s : cj) (hB : ∀ x ∈ s.disk.sheets, aJ x.bytes) (hO : pd 1048576 s.disk) : vr s = some (Vp s) := by
 simp only [vr, xz, W.D]
 rw [Dy s.disk hB hO]
 simp only [W.D]
 unfold Vp
 by_cases h1 : (cB s.disk).2 = 0
 case neg => rw [show ((cB s.disk).2 == 0) = false by rw [beq_eq_false_iff_ne]; exact h1, decide_eq_false h1]; rfl
 rw [show ((cB s.disk).2 == 0) = true by rw [beq_iff_eq]; exact h1, decide_eq_true h1]
 by_cases h2 : (cB s.disk).1.gen = s.gen
 case neg => rw [show ((cB s.disk).1.gen == s.gen) = false by rw [beq_eq_false_iff_ne]; exact h2, decide_eq_false h2]; rfl
 rw [show ((cB s.disk).1.gen == s.gen) = true by rw [beq_iff_eq]; exact h2, decide_eq_true h2]
 obtain ⟨⟨ps, hp⟩, hq⟩ := Cd h1
 have hn := hp.nodes
 simp only [cond_true, Bool.true_and, W.D]
 have e := QA (cB s.disk).1.tree.nodes s.tree.nodes (by omega) hn.2
 rw [show gS (cB s.disk).1.tree s.tree = _ from e, Kp _ _ (by omega)]
 simp only [W.D]
 cases decide ((cB s.disk).1.tree.nodes = s.tree.nodes) <;> rfl
theorem yo (s : cj) (hB : ∀ x ∈ s.disk.sheets, aJ x.bytes) (hO : pd 1048576 s.disk) : uB s = some (Vp s) := by
 simp only [uB, xn, W.D]
 rw [Dl s.disk hB hO]
 simp only [W.D]
 unfold Vp
 by_cases h1 : (cB s.disk).2 = 0
 case neg => rw [show ((cB s.disk).2 == 0) = false by rw [beq_eq_false_iff_ne]; exact h1, decide_eq_false h1]; rfl
 rw [show ((cB s.disk).2 == 0) = true by rw [beq_iff_eq]; exact h1, decide_eq_true h1]
 by_cases h2 : (cB s.disk).1.gen = s.gen
 case neg => rw [show ((cB s.disk).1.gen == s.gen) = false by rw [beq_eq_false_iff_ne]; exact h2, decide_eq_false h2]; rfl
 rw [show ((cB s.disk).1.gen == s.gen) = true by rw [beq_iff_eq]; exact h2, decide_eq_true h2]
 obtain ⟨⟨ps, hp⟩, hq⟩ := Cd h1
 have hn := hp.nodes
 simp only [cond_true, Bool.true_and, W.D]
 have e := PE (cB s.disk).1.tree.nodes s.tree.nodes (by omega) hn.2
 rw [show mU (cB s.disk).1.tree s.tree = _ from e, An _ _ (by omega)]
 simp only [W.D]
 cases decide ((cB s.disk).1.tree.nodes = s.tree.nodes) <;> rfl
theorem Wf {t : Tree} {ps : List az} (h : Nt t ps) : ps.length <= 1600 := by
 rcases h with ⟨_, rfl⟩ | ⟨x, o, hz, _, _, rfl⟩
 ·simp
 ·have := rB x o; omega
theorem GX {t : Tree} {ps : List az} (h : Nt t ps) (k : ByteArray) (hk : pU k = true) : lk t k = some (jJ ps k) := by
 have hl := Wf h
 refine Kn ?_ (by omega) k hk
 rcases h with ⟨rfl, rfl⟩ | ⟨x, o, hz, ht, rfl, rfl⟩
 ·exact GW
 ·exact Km x o hz ht
theorem NM {t : Tree} {ps : List az} (h : Nt t ps) (k : ByteArray) : mT t k = some (jJ ps k) := by
 have hl := Wf h
 refine IN ?_ (by omega) k
 rcases h with ⟨rfl, rfl⟩ | ⟨x, o, hz, ht, rfl, rfl⟩
 ·exact FH
 ·exact IM x o hz ht
def rS (x : Tx) : Bool := (decide (0 <= x.c) && decide (x.c <= 7)) && ((decide (1 <= x.e) && decide (x.e <= 999)) && (decide (1 <= x.n) && decide (x.n <= 999)))
theorem OQ {x : Tx} : rS x = true ↔ (0 <= x.c /\ x.c <= 7) /\ (1 <= x.e /\ x.e <= 999) /\ (1 <= x.n /\ x.n <= 999) := by
 unfold rS
 simp only [Bool.and_eq_true, decide_eq_true_eq]
theorem BU (x : Tx) : Ez x = some (rS x) := by
 simp only [Ez, No, W.D, rS, ge_iff_le]
 cases decide (0 <= x.c) <;> cases decide (x.c <= 7) <;> cases decide (1 <= x.e) <;> cases decide (x.e <= 999) <;> cases decide (1 <= x.n) <;> rfl
theorem AG (x : Tx) : AF x = some (rS x) := by
 simp only [AF, Ni, W.D, rS, aC, ge_iff_le]
 cases decide (0 <= x.c) <;> cases decide (x.c <= 7) <;> cases decide (1 <= x.e) <;> cases decide (x.e <= 999) <;> cases decide (1 <= x.n) <;> rfl
def txT (x : Tx) : ByteArray := (((ak x.c ++ ⟨#[46]⟩) ++ ak x.e) ++ ⟨#[46]⟩) ++ ak x.n
def ej (x : Tx) : ByteArray := if rS x = true then txT x else ⟨#[]⟩
theorem MX (x : Tx) : (ak x.c).size <= 13 /\ (ak x.c ++ (⟨#[46]⟩ : ByteArray)).size <= 14 /\ ((ak x.c ++ (⟨#[46]⟩ : ByteArray)) ++ ak x.e).size <= 27 /\ (((ak x.c ++ (⟨#[46]⟩ : ByteArray)) ++ ak x.e) ++ (⟨#[46]⟩ : ByteArray)).size <= 28 := by
 have h1 := bU x.c
 have h2 := bU x.e
 have hd : (⟨#[46]⟩ : ByteArray).size = 1 := rfl
 simp only [ByteArray.size_append, hd]
 omega
theorem tq (x : Tx) : vt x = some (ej x) := by
 simp only [vt, CH, W.D, BU, qk, ej]
 obtain ⟨a, b, c, d⟩ := MX x
 have h3 := bU x.n
 have h2 := bU x.e
 have hd : (⟨#[46]⟩ : ByteArray).size = 1 := rfl
 rw [if_pos (by omega), if_pos (by omega), if_pos (by omega), if_pos (by omega)]
 cases rS x <;> rfl
theorem AH (x : Tx) : zd x = some (ej x) := by
 simp only [zd, Cv, W.D, AG, yn, ej]
 obtain ⟨a, b, c, d⟩ := MX x
 have h3 := bU x.n
 have h2 := bU x.e
 have hd : (⟨#[46]⟩ : ByteArray).size = 1 := rfl
 rw [if_pos (by omega), if_pos (by omega), if_pos (by omega), if_pos (by omega)]
 cases rS x <;> rfl
theorem tg {n : Int} (h : cI n = true) {c : UInt8} (hc : c.toNat < 48 \/ 57 < c.toNat) : c ∉ (ak n).data.toList := fun hm => by
 have h1 := (BE n.toNat n (Nat.le_refl _) h).1
 rw [kl, List.all_map] at h1
 have h2 := List.all_eq_true.1 h1 c hm
 have h3 : dig (c.toNat : Int) = true := h2
 rw [Lc] at h3
 omega
theorem Vw (x : Tx) : (txT x).data.toList = (ak x.c).data.toList ++ 46 :: ((ak x.e).data.toList ++ 46 :: (ak x.n).data.toList) := by
 unfold txT
 simp only [ByteArray.data_append, Array.toList_append, List.append_assoc]
 rfl
theorem qB {x : Tx} (h : rS x = true) : cI x.c = true /\ cI x.e = true /\ cI x.n = true := by
 rw [OQ] at h
 refine ⟨(iv _).2 ⟨by omega, by omega⟩, (iv _).2 ⟨by omega, by omega⟩, (iv _).2 ⟨by omega, by omega⟩⟩
theorem vF {x : Tx} (h : rS x = true) : wS 46 (txT x) = [ak x.c, ak x.e, ak x.n] := by
 obtain ⟨h1, h2, h3⟩ := qB h
 unfold wS
 rw [Vw, la _ (tg h1 (by decide)), la _ (tg h2 (by decide)), qf (tg h3 (by decide))]
 simp only [List.map_cons, List.map_nil, Of]
theorem OR {x : Tx} (h : rS x = true) : 1 <= (txT x).size /\ (txT x).size <= 9 := by
 rw [OQ] at h
 have h1 := nb 0 x.c (by omega)
 have h2 := nb 2 x.e (by omega)
 have h3 := nb 2 x.n (by omega)
 have hd : (⟨#[46]⟩ : ByteArray).size = 1 := rfl
 unfold txT
 simp only [ByteArray.size_append, hd]
 omega
def bZ (s : ByteArray) : Tx × Bool := open Classical in if h : ∃ x, rS x = true /\ txT x = s then (Classical.choose h, true) else (⟨0, 0, 0⟩, false)
theorem Ci {s : ByteArray} (h : ∀ x, rS x = true -> txT x ≠ s) : bZ s = (⟨0, 0, 0⟩, false) := by
 unfold bZ
 rw [dif_neg (by rintro ⟨y, h1, h2⟩; exact h y h1 h2)]
theorem Xw {x y : Tx} (h1 : rS x = true) (h2 : rS y = true) (h : txT x = txT y) : x = y := by
 have e := vF h1
 rw [h, vF h2] at e
 simp only [List.cons.injEq, and_true] at e
 obtain ⟨e1, e2, e3⟩ := e
 obtain ⟨a1, a2, a3⟩ := qB h1
 obtain ⟨b1, b2, b3⟩ := qB h2
 have f : ∀ {a b : Int}, cI a = true -> cI b = true -> ak b = ak a -> a = b := fun ha hb he => by
  have := eh ha
  rw [<- he, eh hb] at this
  simpa using (congrArg Prod.fst this).symm
 cases x; cases y
 simp only at e1 e2 e3 a1 a2 a3 b1 b2 b3
 rw [f a1 b1 e1, f a2 b2 e2, f a3 b3 e3]
theorem EL {x : Tx} (h : rS x = true) : bZ (txT x) = (x, true) := by
 unfold bZ
 have hx : ∃ y, rS y = true /\ txT y = txT x := ⟨x, h, rfl⟩
 rw [dif_pos hx]
 obtain ⟨h1, h2⟩ := Classical.choose_spec hx
 rw [Xw h1 h h2]
theorem TF {s : ByteArray} {x : Tx} (h : bZ s = (x, true)) : rS x = true /\ txT x = s := by
 unfold bZ at h
 split at h
 ·rename_i g
  have := Classical.choose_spec g
  simp only [Prod.mk.injEq, and_true] at h
  rwa [h] at this
 ·simp at h
theorem AE (s : ByteArray) (hs : s.size <= 1048576) : zc s = some (bZ s) := by
 simp only [zc, Cu, W.D]
 rw [MO 46 s hs]
 simp only [W.D]
 by_cases hx : ∃ x, rS x = true /\ txT x = s
 ·obtain ⟨x, h, rfl⟩ := hx
  obtain ⟨h1, h2, h3⟩ := qB h
  rw [EL h, vF h, show (((([ak x.c, ak x.e, ak x.n] : List ByteArray).length : Nat) : Int) != 3) = false from rfl]
  simp only [cond_false, W.D]
  rw [show aB [ak x.c, ak x.e, ak x.n] 0 = some (ak x.c) from rfl, show aB [ak x.c, ak x.e, ak x.n] 1 = some (ak x.e) from rfl, show aB [ak x.c, ak x.e, ak x.n] 2 = some (ak x.n) from rfl]
  simp only [W.D, pN, eh h1, eh h2, eh h3, AH, ej]
  rw [show (⟨x.c, x.e, x.n⟩ : Tx) = x from rfl, h]
  simp
 ·have hno : ∀ x, rS x = true -> txT x ≠ s := fun x h1 h2 => hx ⟨x, h1, h2⟩
  rw [Ci hno]
  by_cases hl : (wS 46 s).length = 3
  case neg => rw [show (((wS 46 s).length : Int) != 3) = true by rw [bne_iff_ne]; omega]; rfl
  rw [show (((wS 46 s).length : Int) != 3) = false by rw [bne_eq_false_iff_eq]; omega]
  have hsz := Ow 46 s
  generalize wS 46 s = P at hl hsz
  match P, hl with
  | [a, b, c], _ =>
   simp only [cond_false, W.D]
   rw [show aB [a, b, c] 0 = some a from rfl, show aB [a, b, c] 1 = some b from rfl, show aB [a, b, c] 2 = some c from rfl]
   simp only [W.D, pN, AH]
   rw [yg]
   have : ¬ ej ⟨(cw a).1, (cw b).1, (cw c).1⟩ = s := by
    intro g
    unfold ej at g
    split at g
    ·rename_i h1; exact hno _ h1 g
    ·rw [<- g] at hsz
     simp only [List.length_cons, List.length_nil] at hsz
     have : (⟨#[]⟩ : ByteArray).size = 0 := rfl
     omega
   rw [decide_eq_false this]
   rfl
theorem MI (s : ByteArray) (hs : s.size <= 1048576) : zt s = some (bZ s) := by
 simp only [zt, CG, W.D]
 by_cases h9 : s.size <= 9
 case neg =>
  rw [decide_eq_true (by omega : (s.size : Int) > 9), Ci (fun x hx he => by have := OR hx; rw [he] at this; omega)]
  rfl
 rw [decide_eq_false (by omega : ¬ (s.size : Int) > 9)]
 simp only [cond_false, W.D]
 rw [show iB s 46 = some (wS 46 s) from vx 46 s hs]
 simp only [W.D]
 by_cases hx : ∃ x, rS x = true /\ txT x = s
 ·obtain ⟨x, h, rfl⟩ := hx
  obtain ⟨h1, h2, h3⟩ := qB h
  have hz := OR h
  have hl : aV (fun t => (du (txT x) [ak x.c, ak x.e, ak x.n] t).den) ⟨0, [0, 0, 0]⟩ = some [x.c, x.e, x.n] := by
   refine bI (f := fun t => (du (txT x) [ak x.c, ak x.e, ak x.n] t).den) (fun j => ⟨(j : Int), ([x.c, x.e, x.n].take j) ++ List.replicate (3 - j) 0⟩) 3 rfl (fun j hj => ?_) ?_
   ·match j, hj with
    | 0, _ => simp only [du, W.D, show ([ak x.c, ak x.e, ak x.n] : List ByteArray)[0]? = some (ak x.c) from rfl]; rw [ag (show ([ak x.c, ak x.e, ak x.n] : List ByteArray)[0]? = some (ak x.c) from rfl)]; simp only [W.D, jv, eh h1]; rfl
    | 1, _ => simp only [du, W.D]; rw [ag (show ([ak x.c, ak x.e, ak x.n] : List ByteArray)[1]? = some (ak x.e) from rfl)]; simp only [W.D, jv, eh h2]; rfl
    | 2, _ => simp only [du, W.D]; rw [ag (show ([ak x.c, ak x.e, ak x.n] : List ByteArray)[2]? = some (ak x.n) from rfl)]; simp only [W.D, jv, eh h3]; rfl
   ·simp only [du, W.D]; rfl
  rw [EL h, vF h, hl]
  simp only [W.D]
  rw [show aB [x.c, x.e, x.n] 0 = some x.c from rfl, show aB [x.c, x.e, x.n] 1 = some x.e from rfl, show aB [x.c, x.e, x.n] 2 = some x.n from rfl]
  simp only [W.D, tq, ej]
  rw [Fo, decide_eq_false (by intro e; rw [e] at hz; have : (⟨#[]⟩ : ByteArray).size = 0 := rfl; omega), show (⟨x.c, x.e, x.n⟩ : Tx) = x from rfl, h]
  simp
 ·have hno : ∀ x, rS x = true -> txT x ≠ s := fun x h1 h2 => hx ⟨x, h1, h2⟩
  rw [Ci hno]
  have hsz := Ow 46 s
  obtain ⟨j, hj, hj3⟩ := iW (f := fun t => (du s (wS 46 s) t).den) (fun j : List Int => j.length = 3) (fun t : ia => (0 <= t.v16 /\ t.v16 <= (wS 46 s).length) /\ t.Hr.length = 3) (fun t => (wS 46 s).length - t.v16.toNat) (fun t ht => by
   obtain ⟨v, w⟩ := t
   obtain ⟨⟨t0, t1⟩, t2⟩ := ht
   simp only at t0 t1 t2
   obtain ⟨k, rfl⟩ := Int.eq_ofNat_of_zero_le t0
   simp only [du, W.D]
   by_cases c : k < (wS 46 s).length
   case neg => left; rw [decide_eq_false (by omega)]; exact ⟨_, rfl, t2⟩
   right
   rw [decide_eq_true (by omega : (k : Int) < ((wS 46 s).length : Int)), cond_true, ag (List.getElem?_eq_getElem c)]
   simp only [W.D, jv]
   rw [an _ (by omega) (by omega)]
   by_cases c3 : k < 3
   ·rw [decide_eq_true (by omega : (k : Int) < 3), cond_true, ag (List.getElem?_eq_getElem (by omega : k < w.length))]
    exact ⟨_, rfl, ⟨⟨by simp only; omega, by simp only; omega⟩, by simp only [List.length_set]; exact t2⟩, by simp only; omega⟩
   ·rw [decide_eq_false (by omega : ¬ (k : Int) < 3), cond_false]
    exact ⟨_, rfl, ⟨⟨by simp only; omega, by simp only; omega⟩, t2⟩, by simp only; omega⟩) ⟨0, [0, 0, 0]⟩ ⟨⟨by simp, by simp⟩, rfl⟩
  rw [hj]
  match j, hj3 with
  | [a, b, c], _ =>
   simp only [W.D]
   rw [show aB [a, b, c] 0 = some a from rfl, show aB [a, b, c] 1 = some b from rfl, show aB [a, b, c] 2 = some c from rfl]
   simp only [W.D, tq]
   rw [Fo, yg]
   by_cases he : s = ⟨#[]⟩
   ·rw [decide_eq_true he]; rfl
   ·have : ¬ ej ⟨a, b, c⟩ = s := by
     intro g
     unfold ej at g
     split at g
     ·rename_i h1; exact hno _ h1 g
     ·exact he g.symm
    rw [decide_eq_false he, decide_eq_false this]
    rfl
def uP (p : az) : Bool := (decide (1 <= p.key.size) && decide (p.key.size <= 8)) && decide (p.val.size <= 20)
def UU (n : Int) : Bool := decide (1 <= n) && decide (n <= 16)
def stB (n : Int) : Bool := decide (1 <= n) && decide (n <= 1099511627775)
def Dt (m : Msg) : Bool :=
 if m.kind = 1 then ((((UU m.num && aOk m.ask) && (m.stamp == 0)) && (m.code == 0)) && (m.pairs.length == 0)) && !m.yes
 else if m.kind = 2 then (((UU m.num && zA m.ask) && (decide (m.pairs.length <= 8) && m.pairs.all uP)) && (if m.code = 0 then stB m.stamp else (decide (1 <= m.code) && decide (m.code <= 9)) && (m.stamp == 0))) && !m.yes
 else if m.kind = 3 then ((((UU m.num && zA m.ask) && stB m.stamp) && (m.code == 0)) && (m.pairs.length == 0)) && !m.yes
 else if m.kind = 4 \/ m.kind = 5 then (((((m.num == 0)) && zA m.ask) && (m.stamp == 0)) && (m.code == 0)) && (m.pairs.length == 0)
 else if m.kind = 6 \/ m.kind = 7 then (((((m.num == 0) && zA m.ask) && (m.stamp == 0)) && (m.code == 0)) && (m.pairs.length == 0)) && !m.yes
 else false
def mOk (m : Msg) : Bool := (rS m.tx && (decide (0 <= m.shard) && decide (m.shard <= 3))) && Dt m
theorem Vk (n : Int) : rO n = some (UU n) := by
 simp only [rO, tN, W.D, UU, ge_iff_le]
 cases decide (1 <= n) <;> rfl
theorem eJ (a b c : Int) : (bif decide (a >= b) then decide (a <= c) else false) = (decide (b <= a) && decide (a <= c)) := by
 simp only [ge_iff_le]
 cases decide (b <= a) <;> rfl
theorem MY (p : az) : rr p = some (uP p) := by
 simp only [rr, tG, W.D, AI, AJ, uP]
 cases (decide (1 <= p.key.size) && decide (p.key.size <= 8)) <;> rfl
theorem Kt (m : Msg) (hn : m.pairs.length < 4611686018427387904) : aV (fun s => (mM m s).den) 0 = some (bif m.pairs.all uP then .inl () else .inr false) := by
 have := bK m.pairs hn (fun _ x => uP x) (f := fun s => (mM m s).den) (fun k x hk => by
  have hlt := (List.getElem?_eq_some_iff.1 hk).1
  simp only [mM, W.D]
  rw [decide_eq_true (by omega : (k : Int) < (m.pairs.length : Int)), cond_true, ag hk]
  simp only [W.D, oN, tr, uP]
  rw [an _ (by omega) (by omega)]
  cases (decide (1 <= x.key.size) && decide (x.key.size <= 8)) <;> cases decide (x.val.size <= 20) <;> rfl) (by
  simp only [mM, W.D]
  rw [decide_eq_false (by omega), cond_false])
 rwa [fk] at this
theorem RU (xs : List az) (hn : xs.length < 4611686018427387904) : bj xs = some (xs.any fun x => !uP x) := by
 have h := zh (fun x : az => !uP x) xs hn (f := fun s => (bg xs s).den) (fun k x hk => by
  have hlt := (List.getElem?_eq_some_iff.1 hk).1
  simp only [bg, W.D]
  rw [decide_eq_true (by omega : (k : Int) < (xs.length : Int)), cond_true, ag hk]
  simp only [W.D, ta, qQ, MY]
  rw [an _ (by omega) (by omega)]
  cases uP x <;> rfl) (by
  simp only [bg, W.D]
  rw [decide_eq_false (by omega), cond_false])
 simp only [bj, bR, cu, cp, W.D]
 exact h
theorem Wn (xs : List az) : (xs.any fun x => !uP x) = !xs.all uP := by
 induction xs with
 | nil => rfl
 | cons x xs ih => rw [List.any_cons, List.all_cons, ih]; cases uP x <;> rfl
theorem De (q : Ask) : ((q.kind == 0) && ((q.key.toList == ((⟨#[]⟩ : ByteArray)).toList) && ((q.val.toList == ((⟨#[]⟩ : ByteArray)).toList) && ((q.range.lo.toList == ((⟨#[]⟩ : ByteArray)).toList) && ((q.range.hi.toList == ((⟨#[]⟩ : ByteArray)).toList) && ((q.most == 0) && ((q.back == false) && true))))))) = zA q := rfl
theorem Sj (m : Msg) (hn : m.pairs.length < 4611686018427387904) : zg m = some ((decide (m.pairs.length <= 8) && m.pairs.all uP) && (if m.code = 0 then stB m.stamp else (decide (1 <= m.code) && decide (m.code <= 9)) && (m.stamp == 0))) := by
 simp only [zg, CA, W.D, RU _ hn, Wn, aC, eJ]
 by_cases h8 : m.pairs.length <= 8
 case neg => rw [decide_eq_true (by omega : (m.pairs.length : Int) > 8), decide_eq_false h8]; rfl
 rw [decide_eq_false (by omega : ¬ (m.pairs.length : Int) > 8), decide_eq_true h8]
 cases m.pairs.all uP with
 | false => rfl
 | true =>
  by_cases hc : m.code = 0
  ·rw [if_pos hc, show (m.code == 0) = true from beq_iff_eq.2 hc]; rfl
  ·rw [if_neg hc, show (m.code == 0) = false from beq_eq_false_iff_ne.2 hc]
   cases (decide (1 <= m.code) && decide (m.code <= 9)) <;> rfl
theorem Gu (xs : List az) : decide (xs = []) = (xs.length == 0) := by cases xs <;> rfl
theorem Qv (m : Msg) (hn : m.pairs.length < 4611686018427387904) : GS m = some (mOk m) := by
 simp only [GS, HF, W.D, BU, Vk, wV, dD, De]
 rw [Kt m hn, cq]
 obtain ⟨kind, tx, shard, num, stamp, ask, code, pairs, yes⟩ := m
 simp only [mOk, cI]
 cases rS tx with
 | false => rfl
 | true =>
 by_cases c1 : 0 <= shard
 case neg => rw [decide_eq_true (by omega : shard < 0), decide_eq_false c1]; rfl
 by_cases c2 : shard <= 3
 case neg => rw [decide_eq_false (by omega : ¬ shard < 0), decide_eq_true (by omega : shard >= 4), decide_eq_false c2]; simp
 rw [decide_eq_false (by omega : ¬ shard < 0), decide_eq_false (by omega : ¬ shard >= 4), decide_eq_true c1, decide_eq_true c2]
 by_cases c3 : 1 <= kind /\ kind <= 7
 case neg =>
  have : Dt ⟨kind, tx, shard, num, stamp, ask, code, pairs, yes⟩ = false := by
   unfold Dt
   simp only
   rw [if_neg (by omega), if_neg (by omega), if_neg (by omega), if_neg (by omega), if_neg (by omega)]
  rw [this]
  by_cases c4 : 1 <= kind
  ·rw [decide_eq_false (by omega : ¬ kind < 1), decide_eq_true (by omega : kind > 7)]; rfl
  ·rw [decide_eq_true (by omega : kind < 1)]; rfl
 rw [decide_eq_false (by omega : ¬ kind < 1), decide_eq_false (by omega : ¬ kind > 7)]
 have hkinds : kind = 1 \/ kind = 2 \/ kind = 3 \/ kind = 4 \/ kind = 5 \/ kind = 6 \/ kind = 7 := by omega
 have hall : pairs.length = 0 -> pairs.all uP = true := fun h => by rw [List.eq_nil_of_length_eq_zero h]; rfl
 simp only [Dt, UU, stB, bne]
 generalize pairs.all uP = U at hall ⊢
 generalize zA ask = Z
 generalize aOk ask = A
 generalize pairs.length = L at hall ⊢
 have hL : decide ((L : Int) > 8) = !decide (L <= 8) := by
  by_cases h : L <= 8
  ·rw [decide_eq_true h, decide_eq_false (by omega)]; rfl
  ·rw [decide_eq_false h, decide_eq_true (by omega)]; rfl
 have hL0 : decide ((L : Int) > 0) = !(L == 0) := by
  by_cases h : L = 0
  ·rw [beq_iff_eq.2 h, decide_eq_false (by omega)]; rfl
  ·rw [beq_eq_false_iff_ne.2 h, decide_eq_true (by omega)]; rfl
 have hLU : (L == 0) = true -> U = true /\ decide (L <= 8) = true := fun h => ⟨hall (beq_iff_eq.1 h), decide_eq_true (by have := beq_iff_eq.1 h; omega)⟩
 have hs1 : decide (stamp < 1) = !decide (1 <= stamp) := by
  by_cases h : 1 <= stamp
  ·rw [decide_eq_true h, decide_eq_false (by omega)]; rfl
  ·rw [decide_eq_false h, decide_eq_true (by omega)]; rfl
 have hs0 : decide (1 <= stamp) = true -> decide (stamp >= 0) = true := fun h => decide_eq_true (by have := of_decide_eq_true h; omega)
 have hcp : (if code = 0 then (decide (1 <= stamp) && decide (stamp <= 1099511627775)) else (decide (1 <= code) && decide (code <= 9)) && (stamp == 0)) = bif (code == 0) then (decide (1 <= stamp) && decide (stamp <= 1099511627775)) else ((decide (1 <= code) && decide (code <= 9)) && (stamp == 0)) := by
  by_cases h : code = 0
  ·rw [if_pos h, beq_iff_eq.2 h]; rfl
  ·rw [if_neg h, beq_eq_false_iff_ne.2 h]; rfl
 have hc0 : (code == 0) = true -> decide (code < 0) = false /\ decide (code > 9) = false := fun h => by
  have := beq_iff_eq.1 h
  exact ⟨decide_eq_false (by omega), decide_eq_false (by omega)⟩
 have hc1 : (code == 0) = false -> decide (code < 0) = !decide (1 <= code) := fun h => by
  have := beq_eq_false_iff_ne.1 h
  by_cases g : 1 <= code
  ·rw [decide_eq_true g, decide_eq_false (by omega)]; rfl
  ·rw [decide_eq_false g, decide_eq_true (by omega)]; rfl
 have hc9 : decide (code > 9) = !decide (code <= 9) := by
  by_cases g : code <= 9
  ·rw [decide_eq_true g, decide_eq_false (by omega)]; rfl
  ·rw [decide_eq_false g, decide_eq_true (by omega)]; rfl
 rw [hs1, hL, hL0, hcp]
 rw [hc9] at hc0 ⊢
 generalize decide (1 <= num) = n1
 generalize decide (num <= 16) = n2
 generalize (num == 0) = n0
 generalize decide (1 <= stamp) = s1 at hs0 ⊢
 generalize decide (stamp >= 0) = s2 at hs0 ⊢
 generalize decide (stamp <= 1099511627775) = s3
 generalize (stamp == 0) = s0
 generalize decide (L <= 8) = l8 at hLU ⊢
 generalize (L == 0) = l0 at hLU ⊢
 generalize decide (code < 0) = cn at hc0 hc1 ⊢
 generalize decide (1 <= code) = c1' at hc1 ⊢
 generalize decide (code <= 9) = c9 at hc0 ⊢
 generalize (code == 0) = c0 at hc0 hc1 ⊢
 clear hall hs1 hL hL0 hcp hc9 c1 c2 c3 hn
 rcases hkinds with rfl | rfl | rfl | rfl | rfl | rfl | rfl
 ·cases n1 <;> cases n2 <;> cases A <;> try rfl
  cases c0
  ·cases s0 <;> rfl
  obtain ⟨rfl, h9⟩ := hc0 rfl
  cases l0
  ·cases s0 <;> rfl
  obtain ⟨rfl, rfl⟩ := hLU rfl
  cases c9 <;> simp at h9
  cases s0 <;> cases yes <;> rfl
 ·cases n1 <;> cases n2 <;> cases Z <;> try rfl
  cases c0
  ·have := hc1 rfl
   subst this
   cases c1' <;> cases c9 <;> cases l8 <;> cases U <;> cases s0 <;> cases yes <;> rfl
  ·obtain ⟨rfl, h9⟩ := hc0 rfl
   cases c9 <;> simp at h9
   cases l8 <;> cases U <;> try rfl
   cases s1
   ·cases s0 <;> cases yes <;> rfl
   ·have := hs0 rfl
    subst this
    cases s3 <;> cases yes <;> rfl
 ·cases n1 <;> cases n2 <;> cases Z <;> try rfl
  cases c0
  ·cases s1 <;> cases s3 <;> rfl
  obtain ⟨rfl, h9⟩ := hc0 rfl
  cases l0
  ·cases s1 <;> cases s3 <;> rfl
  obtain ⟨rfl, rfl⟩ := hLU rfl
  cases c9 <;> simp at h9
  cases s1
  ·rfl
  ·have := hs0 rfl
   subst this
   cases s3 <;> cases yes <;> rfl
 all_goals
  cases n0 <;> cases Z <;> try rfl
  cases c0
  ·cases s0 <;> rfl
  obtain ⟨rfl, h9⟩ := hc0 rfl
  cases l0
  ·cases s0 <;> rfl
  obtain ⟨rfl, rfl⟩ := hLU rfl
  cases c9 <;> simp at h9
  cases s0 <;> cases yes <;> rfl
theorem QB (a b : Msg) (hn : a.pairs.length < 4611686018427387904) : pO a b = some ((a.kind == b.kind) && ((((a.tx.c == b.tx.c) && ((a.tx.e == b.tx.e) && ((a.tx.n == b.tx.n) && true)))) && ((a.shard == b.shard) && ((a.num == b.num) && ((a.stamp == b.stamp) &&
  ((((a.ask.kind == b.ask.kind) && ((a.ask.key.toList == b.ask.key.toList) && ((a.ask.val.toList == b.ask.val.toList) && ((a.ask.range.lo.toList == b.ask.range.lo.toList) && ((a.ask.range.hi.toList == b.ask.range.hi.toList) && ((a.ask.most == b.ask.most) && ((a.ask.back == b.ask.back) && true)))))))) && ((a.code == b.code) && (decide (a.pairs = b.pairs) && (a.yes == b.yes))))))))) := by
 simp only [pO, xu, W.D, DK _ _ hn]
 generalize (((a.ask.kind == b.ask.kind) && ((a.ask.key.toList == b.ask.key.toList) && ((a.ask.val.toList == b.ask.val.toList) && ((a.ask.range.lo.toList == b.ask.range.lo.toList) && ((a.ask.range.hi.toList == b.ask.range.hi.toList) && ((a.ask.most == b.ask.most) && ((a.ask.back == b.ask.back) && true)))))))) = A
 generalize ((a.tx.c == b.tx.c) && ((a.tx.e == b.tx.e) && ((a.tx.n == b.tx.n) && true))) = X
 generalize (a.kind == b.kind) = K
 generalize (a.shard == b.shard) = S
 generalize (a.num == b.num) = N
 generalize (a.stamp == b.stamp) = P
 generalize (a.code == b.code) = D
 generalize decide (a.pairs = b.pairs) = E
 generalize (a.yes == b.yes) = Y
 cases K <;> try rfl
 cases X <;> try rfl
 cases S <;> try rfl
 cases N <;> try rfl
 cases P <;> try rfl
 cases A <;> try rfl
 cases D <;> try rfl
 cases E <;> rfl
theorem Vl (q : Ask) : ((q.kind == q.kind) && ((q.key.toList == q.key.toList) && ((q.val.toList == q.val.toList) && ((q.range.lo.toList == q.range.lo.toList) && ((q.range.hi.toList == q.range.hi.toList) && ((q.most == q.most) && ((q.back == q.back) && true))))))) = true := by
 simp
theorem Pw (m : Msg) (hn : m.pairs.length < 4611686018427387904) : FE m = some (mOk m) := by
 simp only [FE, Hz, W.D, AG, aC, eJ, DP, Sj m hn]
 have fin : ∀ (ok : Bool) (x : Msg) (B : Bool), x.kind = m.kind -> x.tx = m.tx -> x.shard = m.shard ->
   (ok && ((m.num == x.num) && ((m.stamp == x.stamp) && ((((m.ask.kind == x.ask.kind) && ((m.ask.key.toList == x.ask.key.toList) && ((m.ask.val.toList == x.ask.val.toList) && ((m.ask.range.lo.toList == x.ask.range.lo.toList) && ((m.ask.range.hi.toList == x.ask.range.hi.toList) && ((m.ask.most == x.ask.most) && ((m.ask.back == x.ask.back) && true)))))))) && ((m.code == x.code) && (decide (m.pairs = x.pairs) && (m.yes == x.yes))))))) = B ->
   (bnd (bif ok then bif rS m.tx then bif (decide (0 <= m.shard) && decide (m.shard <= 3)) then bnd (pO m x) some else some false else some false else some false) fun j => some j) = some ((rS m.tx && (decide (0 <= m.shard) && decide (m.shard <= 3))) && B) := by
  intro ok x B h1 h2 h3 h4
  rw [QB m x hn, h1, h2, h3, <- h4]
  simp only [beq_self_eq_true, Bool.true_and, Bool.and_true]
  cases ok <;> cases rS m.tx <;> cases (decide (0 <= m.shard) && decide (m.shard <= 3)) <;> simp
 have hy : (m.yes == false) = !m.yes := by cases m.yes <;> rfl
 have hyy : (m.yes == m.yes) = true := by cases m.yes <;> rfl
 have hpp : decide (m.pairs = m.pairs) = true := decide_eq_true rfl
 unfold mOk
 by_cases k1 : m.kind = 1
 ·rw [show (m.kind == 1) = true from beq_iff_eq.2 k1]
  simp only [cond_true, W.D]
  refine fin _ ⟨m.kind, m.tx, m.shard, m.num, 0, m.ask, 0, [], false⟩ _ rfl rfl rfl ?_
  unfold Dt
  rw [if_pos k1]
  simp only [Vl, Gu, beq_self_eq_true, hy, Bool.true_and, UU]
  cases decide (1 <= m.num) <;> cases decide (m.num <= 16) <;> cases aOk m.ask <;> cases (m.stamp == 0) <;> cases (m.code == 0) <;> cases (m.pairs.length == 0) <;> rfl
 rw [show (m.kind == 1) = false from beq_eq_false_iff_ne.2 k1]
 by_cases k2 : m.kind = 2
 ·rw [show (m.kind == 2) = true from beq_iff_eq.2 k2]
  simp only [cond_true, cond_false, W.D]
  refine fin _ ⟨m.kind, m.tx, m.shard, m.num, m.stamp, VH 0 ⟨#[]⟩ ⟨#[]⟩, m.code, m.pairs, false⟩ _ rfl rfl rfl ?_
  unfold Dt
  rw [if_neg k1, if_pos k2]
  simp only [VH, De, hpp, beq_self_eq_true, hy, Bool.true_and, UU]
  generalize (if m.code = 0 then stB m.stamp else (decide (1 <= m.code) && decide (m.code <= 9)) && (m.stamp == 0)) = S
  cases decide (1 <= m.num) <;> cases decide (m.num <= 16) <;> cases zA m.ask <;> cases decide (m.pairs.length <= 8) <;> cases m.pairs.all uP <;> cases S <;> rfl
 rw [show (m.kind == 2) = false from beq_eq_false_iff_ne.2 k2]
 by_cases k3 : m.kind = 3
 ·rw [show (m.kind == 3) = true from beq_iff_eq.2 k3]
  simp only [cond_true, cond_false, W.D]
  refine fin _ ⟨m.kind, m.tx, m.shard, m.num, m.stamp, VH 0 ⟨#[]⟩ ⟨#[]⟩, 0, [], false⟩ _ rfl rfl rfl ?_
  unfold Dt
  rw [if_neg k1, if_neg k2, if_pos k3]
  simp only [VH, De, Gu, beq_self_eq_true, hy, Bool.true_and, UU, stB]
  cases decide (1 <= m.num) <;> cases decide (m.num <= 16) <;> cases zA m.ask <;> cases decide (1 <= m.stamp) <;> cases decide (m.stamp <= 1099511627775) <;> cases (m.code == 0) <;> cases (m.pairs.length == 0) <;> rfl
 rw [show (m.kind == 3) = false from beq_eq_false_iff_ne.2 k3]
 simp only [cond_true, cond_false, W.D]
 by_cases k4 : m.kind = 4 \/ m.kind = 5
 ·have e : (bif m.kind == 4 then m.kind == 4 else m.kind == 5) = true := by
   rcases k4 with k | k <;> rw [k] <;> rfl
  rw [e]
  simp only [cond_true, cond_false, W.D]
  refine fin true ⟨m.kind, m.tx, m.shard, 0, 0, VH 0 ⟨#[]⟩ ⟨#[]⟩, 0, [], m.yes⟩ _ rfl rfl rfl ?_
  unfold Dt
  rw [if_neg k1, if_neg k2, if_neg k3, if_pos k4]
  simp only [VH, De, Gu, beq_self_eq_true, hyy, Bool.true_and]
  cases (m.num == 0) <;> cases zA m.ask <;> cases (m.stamp == 0) <;> cases (m.code == 0) <;> cases (m.pairs.length == 0) <;> rfl
 ·have e : (bif m.kind == 4 then m.kind == 4 else m.kind == 5) = false := by
   rw [show (m.kind == 4) = false from beq_eq_false_iff_ne.2 (fun g => k4 (.inl g)), show (m.kind == 5) = false from beq_eq_false_iff_ne.2 (fun g => k4 (.inr g))]; rfl
  rw [e]
  simp only [cond_true, cond_false, W.D]
  by_cases k6 : m.kind = 6 \/ m.kind = 7
  ·have e : (bif m.kind == 6 then m.kind == 6 else m.kind == 7) = true := by
    rcases k6 with k | k <;> rw [k] <;> rfl
   rw [e]
   simp only [cond_true, cond_false, W.D]
   refine fin true ⟨m.kind, m.tx, m.shard, 0, 0, VH 0 ⟨#[]⟩ ⟨#[]⟩, 0, [], false⟩ _ rfl rfl rfl ?_
   unfold Dt
   rw [if_neg k1, if_neg k2, if_neg k3, if_neg k4, if_pos k6]
   simp only [VH, De, Gu, beq_self_eq_true, hy, Bool.true_and]
   cases (m.num == 0) <;> cases zA m.ask <;> cases (m.stamp == 0) <;> cases (m.code == 0) <;> cases (m.pairs.length == 0) <;> rfl
  ·have e : (bif m.kind == 6 then m.kind == 6 else m.kind == 7) = false := by
    rw [show (m.kind == 6) = false from beq_eq_false_iff_ne.2 (fun g => k6 (.inl g)), show (m.kind == 7) = false from beq_eq_false_iff_ne.2 (fun g => k6 (.inr g))]; rfl
   rw [e]
   simp only [cond_true, cond_false, W.D]
   unfold Dt
   rw [if_neg k1, if_neg k2, if_neg k3, if_neg k4, if_neg k6, Bool.and_false]
def inL : Nat -> List Int -> List Int
 | _, [] => []
 | k, n :: ns => if n > 0 then (k : Int) :: inL (k + 1) ns else inL (k + 1) ns
theorem zk : ∀ (k : Nat) (xs : List Int) (n : Int), inL k (xs ++ [n]) = inL k xs ++ if n > 0 then [((k + xs.length : Nat) : Int)] else []
 | k, [], n => by simp only [List.nil_append, inL, List.length_nil, Nat.add_zero]
 | k, x :: xs, n => by
  simp only [List.cons_append, inL, zk (k + 1) xs n, List.length_cons]
  rw [show k + 1 + xs.length = k + (xs.length + 1) by omega]
  split <;> rfl
theorem wG : ∀ (k : Nat) (xs : List Int), (inL k xs).length <= xs.length
 | _, [] => by simp [inL]
 | k, x :: xs => by
  have := wG (k + 1) xs
  simp only [inL]
  split
  ·simp only [List.length_cons]; omega
  ·simp only [List.length_cons]; omega
theorem AR : ∀ {xs : List Int} {k : Nat} {n : Int}, n ∈ inL k xs ↔ ∃ j m, xs[j]? = some m /\ m > 0 /\ n = ((k + j : Nat) : Int)
 | [], k, n => by simp [inL]
 | x :: xs, k, n => by
  have ih := @AR xs (k + 1) n
  constructor
  ·intro h
   simp only [inL] at h
   split at h
   ·rename_i hx
    rcases List.mem_cons.1 h with rfl | h
    ·exact ⟨0, x, rfl, hx, rfl⟩
    ·obtain ⟨j, m, a, b, c⟩ := ih.1 h
     exact ⟨j + 1, m, a, b, by rw [c]; omega⟩
   ·obtain ⟨j, m, a, b, c⟩ := ih.1 h
    exact ⟨j + 1, m, a, b, by rw [c]; omega⟩
  ·rintro ⟨j, m, a, b, c⟩
   simp only [inL]
   cases j with
   | zero =>
    simp only [List.getElem?_cons_zero, Option.some.injEq] at a
    subst a
    rw [if_pos b, c]
    simp
   | succ j =>
    have : n ∈ inL (k + 1) xs := ih.2 ⟨j, m, by simpa using a, b, by rw [c]; omega⟩
    split
    ·exact List.mem_cons_of_mem _ this
    ·exact this
theorem AP : ∀ (k : Nat) (xs : List Int), (inL k xs).Pairwise (· < ·)
 | _, [] => by simp [inL]
 | k, x :: xs => by
  simp only [inL]
  split
  ·refine List.Pairwise.cons (fun n hn => ?_) (AP (k + 1) xs)
   obtain ⟨j, m, _, _, c⟩ := AR.1 hn
   omega
  ·exact AP (k + 1) xs
theorem KV : ∀ {L M : List Int}, L.Pairwise (· < ·) -> M.Pairwise (· < ·) -> (∀ n, n ∈ L ↔ n ∈ M) -> L = M
 | [], [], _, _, _ => rfl
 | [], m :: M, _, _, h => absurd ((h m).2 (by simp)) (by simp)
 | l :: L, [], _, _, h => absurd ((h l).1 (by simp)) (by simp)
 | l :: L, m :: M, hl, hm, h => by
  obtain ⟨a1, a2⟩ := List.pairwise_cons.1 hl
  obtain ⟨b1, b2⟩ := List.pairwise_cons.1 hm
  have e : l = m := by
   rcases List.mem_cons.1 ((h l).1 (by simp)) with e | e
   ·exact e
   ·rcases List.mem_cons.1 ((h m).2 (by simp)) with f | f
    ·exact f.symm
    ·have := a1 m f; have := b1 l e; omega
  subst e
  rw [KV a2 b2 fun n => ⟨fun hn => by
   rcases List.mem_cons.1 ((h n).1 (List.mem_cons_of_mem _ hn)) with e | e
   ·have := a1 n hn; omega
   ·exact e, fun hn => by
   rcases List.mem_cons.1 ((h n).2 (List.mem_cons_of_mem _ hn)) with e | e
   ·have := b1 n hn; omega
   ·exact e⟩]
theorem Td (cs : List Int) (hn : cs.length <= 1048576) : Ca cs = some (inL 0 cs) := by
 simp only [Ca, HH, W.D]
 rw [bI (f := fun s => (ra cs s).den) (fun j : Nat => ⟨inL 0 (cs.take j), (j : Int)⟩) cs.length (r := inL 0 cs) (by simp [inL]) (fun j hj => by
  have hl := wG 0 (cs.take j)
  rw [List.length_take] at hl
  simp only [ra, W.D]
  rw [decide_eq_true (by omega : (j : Int) < (cs.length : Int)), cond_true, ag (List.getElem?_eq_getElem hj)]
  simp only [W.D]
  rw [if_pos (by simp only [List.length_cons, List.length_nil]; omega), an _ (by omega) (by omega), <- aR hj, zk, List.length_take]
  by_cases c : cs[j] > 0
  ·rw [decide_eq_true c, if_pos c, show 0 + min j cs.length = j by omega]; rfl
  ·rw [decide_eq_false c, if_neg c, List.append_nil]; rfl) (by
  simp only [ra, W.D]
  rw [decide_eq_false (by omega), cond_false, List.take_length])]
 rfl
theorem WQ (c : aQ) (hn : c.counts.length <= 1048576) : js c = some (inL 0 c.counts) := by
 simp only [js, oU, W.D]
 rw [bI (f := fun s => (gj c s).den) (fun j : Nat => ⟨inL 0 (c.counts.take j), (j : Int)⟩) c.counts.length (r := inL 0 c.counts) (by simp [inL]) (fun j hj => by
  have hl := wG 0 (c.counts.take j)
  rw [List.length_take] at hl
  simp only [gj, W.D]
  rw [decide_eq_true (by omega : (j : Int) < (c.counts.length : Int)), cond_true, ag (List.getElem?_eq_getElem hj)]
  simp only [W.D]
  rw [if_pos (by simp only [List.length_cons, List.length_nil]; omega), an _ (by omega) (by omega), <- aR hj, zk, List.length_take]
  by_cases h : c.counts[j] > 0
  ·rw [decide_eq_true h, if_pos h, show 0 + min j c.counts.length = j by omega]; rfl
  ·rw [decide_eq_false h, if_neg h, List.append_nil]; rfl) (by
  simp only [gj, W.D]
  rw [decide_eq_false (by omega), cond_false, List.take_length])]
 rfl
def Ag : List Int -> ByteArray
 | [] => ⟨#[]⟩
 | n :: ns => ak n ++ Ag ns
theorem XX (a : ByteArray) : (⟨#[]⟩ : ByteArray) ++ a = a := by apply ByteArray.ext; simp [ByteArray.data_append]
theorem Rj (a : ByteArray) : a ++ (⟨#[]⟩ : ByteArray) = a := by apply ByteArray.ext; simp [ByteArray.data_append]
theorem Ig : ∀ (xs : List Int) (n : Int), Ag (xs ++ [n]) = Ag xs ++ ak n
 | [], n => by simp only [List.nil_append, Ag]; rw [XX, Rj]
 | x :: xs, n => by simp only [List.cons_append, Ag, Ig xs n, ByteArray.append_assoc]
theorem Ie : ∀ (xs : List Int), (Ag xs).size <= 13 * xs.length
 | [] => by simp [Ag]; rfl
 | x :: xs => by
  have := Ie xs; have := bU x
  simp only [Ag, ByteArray.size_append, List.length_cons]; omega
theorem Ks (x : Tx) (cs : List Int) (hn : cs.length <= 1048576) : qq x cs = some ((ej x ++ ⟨#[58]⟩) ++ Ag (inL 0 cs)) := by
 have hx : (ej x ++ (⟨#[58]⟩ : ByteArray)).size <= 60 := by
  have hd : (⟨#[58]⟩ : ByteArray).size = 1 := rfl
  have h0 : (⟨#[]⟩ : ByteArray).size = 0 := rfl
  have h1 := MX x
  have h2 := bU x.n
  unfold ej
  split
  ·unfold txT
   simp only [ByteArray.size_append, hd] at h1 ⊢
   omega
  ·simp only [ByteArray.size_append, hd, h0]; omega
 simp only [qq, xE, W.D, tq]
 rw [ByteArray.size_append] at hx
 rw [if_pos (by omega), bI (f := fun s => (lM cs s).den) (fun j : Nat => ⟨(ej x ++ ⟨#[58]⟩) ++ Ag (inL 0 (cs.take j)), (j : Int)⟩) cs.length (r := (ej x ++ ⟨#[58]⟩) ++ Ag (inL 0 cs)) (by simp [inL, Ag, Rj]) (fun j hj => by
  have hl := wG 0 (cs.take j)
  rw [List.length_take] at hl
  have hc := Ie (inL 0 (cs.take j))
  have hnum := bU (j : Int)
  simp only [lM, W.D]
  rw [decide_eq_true (by omega : (j : Int) < (cs.length : Int)), cond_true, ag (List.getElem?_eq_getElem hj)]
  simp only [W.D, qk]
  rw [if_pos (by rw [ByteArray.size_append, ByteArray.size_append]; omega), an _ (by omega) (by omega), <- aR hj, zk, List.length_take]
  by_cases c : cs[j] > 0
  ·rw [decide_eq_true c, if_pos c, show 0 + min j cs.length = j by omega, Ig, <- ByteArray.append_assoc]; rfl
  ·rw [decide_eq_false c, if_neg c, List.append_nil]; rfl) (by
  simp only [lM, W.D]
  rw [decide_eq_false (by omega), cond_false, List.take_length])]
 rfl
theorem MT {w : ByteArray} (h : (cw w).2 = true) : 0 <= (cw w).1 := by
 unfold cw at h ⊢
 split
 ·rename_i g
  simp only
  cases hl : cI (KP (bytesOf w) 0) with
  | true => exact ((iv _).1 hl).1
  | false =>
   have := g.2.2.2
   rw [JQ hl] at this
   have h1 := g.1
   rw [<- this] at h1
   cases h1
 ·simp
def epo (ps : List az) : Int := if (cw (jJ ps ⟨#[101]⟩).1).2 = true /\ (cw (jJ ps ⟨#[101]⟩).1).1 <= 999 then (cw (jJ ps ⟨#[101]⟩).1).1 else 0
theorem rM {t : Tree} {ps : List az} (h : Nt t ps) : rP t = some (epo ps) := by
 simp only [rP, tO, W.D]
 rw [GX h _ rfl]
 simp only [W.D, jv]
 unfold epo
 cases h1 : (cw (jJ ps ⟨#[101]⟩).1).2 with
 | false => rfl
 | true =>
  by_cases h2 : (cw (jJ ps ⟨#[101]⟩).1).1 <= 999
  ·rw [decide_eq_false (by omega), if_pos ⟨rfl, h2⟩]; rfl
  ·rw [decide_eq_true (by omega), if_neg (by rintro ⟨_, g⟩; exact h2 g)]; rfl
theorem rn {t : Tree} {ps : List az} (h : Nt t ps) : ze t ⟨#[101]⟩ = some (epo ps) := by
 simp only [ze, Cy, W.D]
 rw [NM h]
 simp only [W.D, pN, aC, eJ]
 unfold epo
 cases h1 : (cw (jJ ps ⟨#[101]⟩).1).2 with
 | false => rfl
 | true =>
  have h0 := MT h1
  by_cases h2 : (cw (jJ ps ⟨#[101]⟩).1).1 <= 999
  ·rw [decide_eq_true h2, if_pos ⟨rfl, h2⟩]
   by_cases h3 : 1 <= (cw (jJ ps ⟨#[101]⟩).1).1
   ·rw [decide_eq_true h3]; rfl
   ·rw [decide_eq_false h3]
    have : (cw (jJ ps ⟨#[101]⟩).1).1 = 0 := by omega
    rw [this]; rfl
  ·rw [decide_eq_false h2, if_neg (by rintro ⟨_, g⟩; exact h2 g), Bool.and_false]; rfl
def dI (u : UInt8) : Int := (u.toNat : Int) - 48
def QP (b : List UInt8) (i : Nat) : Bool := b.any fun u => dI u == (i : Int)
def pe (b : List UInt8) (k : Nat) : List Int := (List.range k).map fun i => if QP b i = true then 1 else 0
def ot (v : ByteArray) (id : Int) (k : Nat) : Tx × List Int × Bool := match parts 58 v.data.toList with
 | [a, b] => if (b ≠ [] /\ (bZ (mkB a)).2 = true) /\ (bZ (mkB a)).1.c = id /\ (ej (bZ (mkB a)).1 ++ ⟨#[58]⟩) ++ Ag (inL 0 (pe b k)) = v then ((bZ (mkB a)).1, inL 0 (pe b k), true) else (⟨0, 0, 0⟩, [], false)
 | _ => (⟨0, 0, 0⟩, [], false)
theorem Oe (b : List UInt8) (j : Nat) (hj : j < b.length) : bD (mkB b) (j : Int) = (b[j].toNat : Int) := by
 rw [wx (by rw [me]; exact hj)]
 simp [mkB]
theorem YG (u : UInt8) : (u.toNat : Int) < 256 := by have := u.toNat_lt; omega
theorem Uh {α : Type} (p : α -> Bool) {xs : List α} {k : Nat} (hk : k < xs.length) : (xs.take (k + 1)).any p = ((xs.take k).any p || p xs[k]) := by
 rw [<- aR hk, List.any_append, List.any_cons, List.any_nil, Bool.or_false]
theorem MJ (p1 : Int) (k : Nat) (r1 : ByteArray × Bool) (a b : List UInt8) (r3 : Tx × Bool) (w : List Int) (i : Nat) (hi : i < k) (hw : w.length = k) (hb : b.length <= 1048576) (s1 : cM) (hs : s1.v50 = (i : Int)) :
  aV (fun s => (dV p1 (k : Int) r1 [mkB a, mkB b] r3 s1 s).den) ⟨0, w⟩ = some (if QP b i = true then w.set i 1 else w) := by
 have g1 : aB [mkB a, mkB b] 1 = some (mkB b) := rfl
 refine bI (f := fun s => (dV p1 (k : Int) r1 [mkB a, mkB b] r3 s1 s).den) (fun j : Nat => ⟨(j : Int), if QP (b.take j) i = true then w.set i 1 else w⟩) b.length (by simp [QP]) (fun j hj => ?_) ?_
 ·have hu := YG b[j]
  simp only [dV, W.D]
  rw [g1]
  simp only [W.D, me]
  rw [decide_eq_true (by omega : (j : Int) < (b.length : Int)), cond_true, if_pos (by omega), Oe b j hj, hs, an ((b[j].toNat : Int)) (by omega) (by omega), an ((b[j].toNat : Int) - 48) (by omega) (by omega), an ((j : Int) + 1) (by omega) (by omega)]
  have hit : QP (b.take (j + 1)) i = (QP (b.take j) i || dI b[j] == (i : Int)) := Uh _ hj
  rw [hit]
  unfold dI
  cases hd : ((b[j].toNat : Int) - 48 == (i : Int)) with
  | false => rw [Bool.or_false, cond_false]; rfl
  | true =>
   rw [Bool.or_true, cond_true]
   cases hh : QP (b.take j) i with
   | true =>
    simp only [if_true, cond_true]
    rw [ag (List.getElem?_eq_getElem (by rw [List.length_set]; omega))]
    simp only [W.D, Int.toNat_natCast, List.set_set]
    rfl
   | false =>
    simp only [if_true, Bool.false_eq_true, if_false, cond_false, cond_true]
    rw [ag (List.getElem?_eq_getElem (by omega : i < w.length))]
    simp only [W.D, Int.toNat_natCast]
    rfl
 ·simp only [dV, W.D]
  rw [g1]
  simp only [W.D, me]
  rw [decide_eq_false (by omega), cond_false, List.take_length]
theorem MK (p1 : Int) (k : Nat) (hk : k <= 1048576) (r1 : ByteArray × Bool) (a b : List UInt8) (r3 : Tx × Bool) (hb : b.length <= 1048576) :
  aV (fun s => (dU p1 (k : Int) r1 [mkB a, mkB b] r3 s).den) ⟨List.replicate k 0, 0⟩ = some (pe b k) := by
 refine bI (f := fun s => (dU p1 (k : Int) r1 [mkB a, mkB b] r3 s).den) (fun i : Nat => ⟨pe b i ++ List.replicate (k - i) 0, (i : Int)⟩) k (by simp [pe]) (fun i hi => ?_) ?_
 ·have hlen : (pe b i ++ List.replicate (k - i) (0 : Int)).length = k := by simp only [pe, List.length_append, List.length_map, List.length_range, List.length_replicate]; omega
  simp only [dU, W.D, List.length_replicate, Int.toNat_natCast]
  rw [decide_eq_true (by omega : (i : Int) < (k : Int)), cond_true, MJ p1 k r1 a b r3 _ i hi hlen hb _ rfl]
  simp only [W.D]
  rw [an ((i : Int) + 1) (by omega) (by omega)]
  have e1 : pe b i ++ List.replicate (k - i) (0 : Int) = pe b i ++ [0] ++ List.replicate (k - (i + 1)) 0 := by
   rw [show k - i = (k - (i + 1)) + 1 by omega, List.replicate_succ, List.append_assoc]; rfl
  have e2 : pe b (i + 1) = pe b i ++ [if QP b i = true then 1 else 0] := by
   unfold pe
   rw [List.range_succ, List.map_append]; rfl
  rw [e1, e2]
  cases QP b i with
  | true =>
   simp only [if_true, cond_true]
   rw [wZ _ _ _ _ _ (by simp [pe])]
   rfl
  | false => rfl
 ·simp only [dU, W.D, List.length_replicate, Int.toNat_natCast]
  rw [decide_eq_false (by omega), cond_false, Nat.sub_self, List.replicate_zero, List.append_nil]
theorem Rt {v : ByteArray} {a b : List UInt8} (h : parts 58 v.data.toList = [a, b]) (id : Int) (k : Nat) : ot v id k = if (b ≠ [] /\ (bZ (mkB a)).2 = true) /\ (bZ (mkB a)).1.c = id /\ (ej (bZ (mkB a)).1 ++ ⟨#[58]⟩) ++ Ag (inL 0 (pe b k)) = v then ((bZ (mkB a)).1, inL 0 (pe b k), true) else (⟨0, 0, 0⟩, [], false) := by
 unfold ot
 rw [h]
theorem Aj {v : ByteArray} (h : (parts 58 v.data.toList).length ≠ 2) (id : Int) (k : Nat) : ot v id k = (⟨0, 0, 0⟩, [], false) := by
 unfold ot
 split
 ·rename_i a b e
  rw [e] at h
  exact absurd rfl h
 ·rfl
theorem YF {α : Type} {l : List α} (h : l.length = 2) : ∃ a b, l = [a, b] := by
 match l, h with
 | [a, b], _ => exact ⟨a, b, rfl⟩
theorem SM {ps : List az} {k : ByteArray} (h : (jJ ps k).2 = false) : (jJ ps k).1 = ⟨#[]⟩ := by
 unfold jJ at h ⊢
 split
 ·rename_i p e; rw [e] at h; cases h
 ·rfl
theorem Vg {t : Tree} {ps : List az} (h : Nt t ps) (hv : (jJ ps ⟨#[99]⟩).1.size <= 1048576) (id : Int) (k : Nat) (hk : k <= 1048576) :
  ∃ cs, mj t id (k : Int) = some ((ot (jJ ps ⟨#[99]⟩).1 id k).1, cs, (ot (jJ ps ⟨#[99]⟩).1 id k).2.2) /\ ((ot (jJ ps ⟨#[99]⟩).1 id k).2.2 = true -> inL 0 cs = (ot (jJ ps ⟨#[99]⟩).1 id k).2.1 /\ cs.length = k) := by
 simp only [mj, oY, W.D]
 rw [GX h _ rfl]
 have hno := @SM ps ⟨#[99]⟩
 obtain ⟨⟨v, there⟩, hr⟩ : ∃ r, jJ ps ⟨#[99]⟩ = r := ⟨_, rfl⟩
 rw [hr] at hv hno ⊢
 simp only at hv hno
 simp only [W.D]
 have hchk : 0 <= (k : Int) /\ k * 8 <= 140737488355328 := ⟨by omega, by omega⟩
 simp only [Int.toNat_natCast]
 simp only [if_pos hchk]
 rw [show iB v 58 = some (wS 58 v) from vx 58 v hv]
 simp only [W.D]
 have fail : ∀ o : Option (Tx × List Int × Bool), o = some (⟨0, 0, 0⟩, List.replicate k 0, false) -> ot v id k = (⟨0, 0, 0⟩, [], false) -> ∃ cs, o = some ((ot v id k).1, cs, (ot v id k).2.2) /\ ((ot v id k).2.2 = true -> inL 0 cs = (ot v id k).2.1 /\ cs.length = k) := fun o h1 h2 => ⟨List.replicate k 0, by rw [h1, h2], by rw [h2]; simp⟩
 cases there with
 | false =>
  refine fail _ rfl ?_
  rw [hno rfl]
  exact Aj (by decide) id k
 | true =>
 rw [Bool.not_true, cond_false]
 by_cases h2 : (parts 58 v.data.toList).length = 2
 case neg =>
  rw [show (((wS 58 v).length : Int) != 2) = true by rw [bne_iff_ne]; unfold wS; rw [List.length_map]; omega]
  exact fail _ rfl (Aj h2 id k)
 obtain ⟨a, b, hab⟩ := YF h2
 have hp : wS 58 v = [mkB a, mkB b] := by unfold wS; rw [hab]; rfl
 have ha : (mkB a).size <= v.size := Ox (c := 58) (by rw [hp]; simp)
 have hb : (mkB b).size <= v.size := Ox (c := 58) (by rw [hp]; simp)
 rw [hp, show (((([mkB a, mkB b] : List ByteArray).length : Nat) : Int) != 2) = false from rfl, Rt hab]
 simp only [cond_false, W.D]
 rw [show aB [mkB a, mkB b] 1 = some (mkB b) from rfl, show aB [mkB a, mkB b] 0 = some (mkB a) from rfl]
 simp only [W.D]
 rw [Fo]
 by_cases hb0 : b = []
 ·subst hb0
  rw [decide_eq_true (show mkB [] = ⟨#[]⟩ from rfl), if_neg (by rintro ⟨⟨g, _⟩, _⟩; exact g rfl)]
  exact ⟨List.replicate k 0, rfl, by simp⟩
 have hbn : ¬ mkB b = ⟨#[]⟩ := fun g => hb0 (by
  have := congrArg (fun x : ByteArray => x.data.toList) g
  simpa [mkB] using this)
 rw [decide_eq_false hbn, cond_false, MI _ (by omega)]
 simp only [W.D]
 rw [MK id k hk (v, true) a b _ (by rw [me] at hb; omega)]
 simp only [W.D, Ks _ (pe b k) (by simp only [pe, List.length_map, List.length_range]; exact hk)]
 rw [yg]
 have hcl : (pe b k).length = k := by simp [pe]
 cases h3 : (bZ (mkB a)).2 with
 | false => rw [if_neg (by rintro ⟨⟨_, g⟩, _⟩; cases g)]; exact ⟨List.replicate k 0, rfl, by simp⟩
 | true =>
  by_cases h4 : (bZ (mkB a)).1.c = id
  case neg => rw [show ((bZ (mkB a)).1.c != id) = true by rw [bne_iff_ne]; exact h4, if_neg (by rintro ⟨_, g, _⟩; exact h4 g)]; exact ⟨List.replicate k 0, rfl, by simp⟩
  rw [show ((bZ (mkB a)).1.c != id) = false by rw [bne_eq_false_iff_eq]; exact h4]
  by_cases h5 : (ej (bZ (mkB a)).1 ++ ⟨#[58]⟩) ++ Ag (inL 0 (pe b k)) = v
  ·rw [decide_eq_true h5, if_pos ⟨⟨hb0, rfl⟩, h4, h5⟩]
   exact ⟨pe b k, rfl, fun _ => ⟨rfl, hcl⟩⟩
  ·rw [decide_eq_false h5, if_neg (by rintro ⟨_, _, g⟩; exact h5 g)]
   exact ⟨List.replicate k 0, rfl, by simp⟩
theorem uG (c : UInt8) : ∀ (l : List UInt8), (c ∉ l /\ Lib.indexByte l c = -1) \/ ∃ a b, l = a ++ c :: b /\ c ∉ a /\ Lib.indexByte l c = (a.length : Int)
 | [] => .inl ⟨by simp, rfl⟩
 | x :: l => by
  by_cases h : x = c
  ·subst h
   exact .inr ⟨[], l, rfl, by simp, by simp [Lib.indexByte]⟩
  ·have hx : (x == c) = false := beq_eq_false_iff_ne.2 h
   rcases uG c l with ⟨h1, h2⟩ | ⟨a, b, rfl, h1, h2⟩
   ·refine .inl ⟨fun g => ?_, ?_⟩
    ·rcases List.mem_cons.1 g with g | g
     ·exact h g.symm
     ·exact h1 g
    ·unfold Lib.indexByte
     rw [hx, h2]
     rfl
   ·refine .inr ⟨x :: a, b, rfl, fun g => ?_, ?_⟩
    ·rcases List.mem_cons.1 g with g | g
     ·exact h g.symm
     ·exact h1 g
    ·unfold Lib.indexByte
     rw [hx, h2, show (((a.length : Nat) : Int) == -1) = false from beq_eq_false_iff_ne.2 (by omega)]
     simp
theorem Yh {v : ByteArray} (h : (58 : UInt8) ∉ v.data.toList) : EF v ⟨#[58]⟩ = some (v, ⟨#[]⟩, false) := by
 simp only [EF, HI, ct, cg, W.D, bY, IV]
 rw [if_pos (show (⟨#[58]⟩ : ByteArray).size = 1 from rfl)]
 rcases uG 58 v.data.toList with ⟨_, h2⟩ | ⟨a, b, h1, _⟩
 ·simp only [W.D]
  rw [show Lib.indexByte v.data.toList ((⟨#[58]⟩ : ByteArray).data.toList.head!) = -1 from h2]
  rfl
 ·rw [h1] at h
  exact absurd (by simp) h
theorem Wx {v : ByteArray} {a b : List UInt8} (hv : v.size <= 1048576) (h : v.data.toList = a ++ 58 :: b) (ha : (58 : UInt8) ∉ a) : EF v ⟨#[58]⟩ = some (mkB a, mkB b, true) := by
 have hsz : v.size = a.length + 1 + b.length := by
  have := congrArg List.length h
  simp only [List.length_append, List.length_cons] at this
  have e : v.data.toList.length = v.size := by simp
  omega
 simp only [EF, HI, ct, cg, W.D, bY, IV]
 rw [if_pos (show (⟨#[58]⟩ : ByteArray).size = 1 from rfl)]
 have hi : Lib.indexByte v.data.toList ((⟨#[58]⟩ : ByteArray).data.toList.head!) = (a.length : Int) := by
  show Lib.indexByte v.data.toList 58 = _
  rcases uG 58 v.data.toList with ⟨h1, _⟩ | ⟨a', b', h1, h2, h3⟩
  ·rw [h] at h1; exact absurd (by simp) h1
  ·rw [h3]
   have : a' = a := by
    have h4 := la (c := 58) b ha
    have h5 := la (c := 58) b' h2
    rw [<- h, h1, h5] at h4
    exact (List.cons.inj h4).1
   rw [this]
 simp only [W.D]
 rw [hi]
 rw [decide_eq_true (by omega : (a.length : Int) >= 0), show ((⟨#[58]⟩ : ByteArray).size : Int) = 1 from rfl, an ((a.length : Int) + 1) (by omega) (by omega)]
 simp only [cond_true]
 rw [if_pos (by omega), if_pos (by omega)]
 congr 1
 rw [extract_mk, extract_mk, h, show ((a.length : Int)).toNat = a.length by omega, show ((a.length : Int) + 1).toNat = a.length + 1 by omega, show ((v.size : Int)).toNat = (a ++ 58 :: b).length by rw [List.length_append, List.length_cons]; omega, List.take_length, List.take_left' rfl]
 have : (a ++ 58 :: b).drop (a.length + 1) = b := by
  rw [List.drop_append, List.drop_eq_nil_of_le (by omega), show a.length + 1 - a.length = 1 by omega]
  rfl
 rw [this]
 rfl
def gD (b : List UInt8) (k : Nat) (j : Nat) (u : UInt8) : Bool := (decide (0 <= dI u) && decide (dI u <= (k : Int) - 1)) && lE (fun y x => decide (dI y < dI x)) b j u
theorem Px (k : Nat) (hk : k <= 1048576) (a : ByteArray) (b : List UInt8) (ok : Bool) (r3 : Tx × Bool) (hb : b.length <= 1048576) :
  aV (fun s => (fK (k : Int) (a, mkB b, ok) r3 s).den) ⟨[], 0⟩ = some (if gf (gD b k) 0 b then .inl (b.map dI) else .inr (⟨0, 0, 0⟩, [], false)) := by
 have h := kf (d := true) (f := fun s => (fK (k : Int) (a, mkB b, ok) r3 s).den) (fun j : Nat => ⟨(b.map dI).take j, (j : Int)⟩) (fun j => if gf (gD b k) j (b.drop j) then .inl (b.map dI) else .inr (⟨0, 0, 0⟩, [], false)) b.length (fun j hj => ?_) ?_ (s0 := ⟨[], 0⟩) (by simp) (by rw [List.drop_zero])
 ·rcases h with h | ⟨h, _⟩
  ·exact h
  ·cases h
 ·have hg := List.getElem?_eq_getElem hj
  have hu := YG b[j]
  have hm : (b.map dI).length = b.length := List.length_map ..
  have key : (fK (k : Int) (a, mkB b, ok) r3 ⟨(b.map dI).take j, (j : Int)⟩).den = some (if gD b k j b[j] then .inl ⟨(b.map dI).take (j + 1), ((j + 1 : Nat) : Int)⟩ else .inr (.inr (⟨0, 0, 0⟩, [], false))) := by
   simp only [fK, W.D, me, aC, eJ]
   rw [decide_eq_true (by omega : (j : Int) < (b.length : Int)), cond_true, if_pos (by omega), Oe b j hj, an ((b[j].toNat : Int)) (by omega) (by omega), an ((b[j].toNat : Int) - 48) (by omega) (by omega), an ((k : Int) - 1) (by omega) (by omega), if_pos (by simp only [List.length_take, List.length_cons, List.length_nil]; omega), an ((j : Int) + 1) (by omega) (by omega)]
   have e1 : (b.map dI).take j ++ [(b[j].toNat : Int) - 48] = (b.map dI).take (j + 1) := by
    rw [<- aR (by rw [hm]; exact hj), List.getElem_map]; rfl
   rw [e1]
   unfold gD
   have e2 : (b[j].toNat : Int) - 48 = dI b[j] := rfl
   rw [e2]
   cases hr : (decide (0 <= dI b[j]) && decide (dI b[j] <= (k : Int) - 1)) with
   | false => rfl
   | true =>
    simp only [Bool.not_true, cond_false, W.D, Bool.true_and]
    cases j with
    | zero => rfl
    | succ j =>
     rw [decide_eq_true (by omega : ((j + 1 : Nat) : Int) > 0), cond_true, an (((j + 1 : Nat) : Int) - 1) (by omega) (by omega), show (((j + 1 : Nat) : Int) - 1) = (j : Int) by omega, ag (show ((b.map dI).take (j + 1))[j]? = some (dI (b[j]'(by omega))) by rw [List.getElem?_take_of_lt (by omega), List.getElem?_map, List.getElem?_eq_getElem (by omega)]; rfl)]
     simp only [W.D, lE, List.getElem?_eq_getElem (show j < b.length by omega)]
     by_cases c : dI (b[j]'(by omega)) < dI b[j + 1]
     ·rw [decide_eq_true c, decide_eq_false (by omega)]; rfl
     ·rw [decide_eq_false c, decide_eq_true (by omega)]; rfl
  rw [HW hg]
  cases hgd : gD b k j b[j] with
  | true => left; rw [hgd] at key; exact ⟨.val key, by rw [Bool.true_and]⟩
  | false => right; rw [hgd] at key; exact .val key
 ·refine .val ?_
  simp only [fK, W.D, me]
  rw [decide_eq_false (by omega), cond_false, List.drop_length, List.take_of_length_le (by rw [List.length_map]; omega)]
  rfl
theorem Fc {b : List UInt8} {k : Nat} (h : gf (gD b k) 0 b = true) : (b.map dI).Pairwise (· < ·) /\ ∀ u ∈ b, 0 <= dI u /\ dI u <= (k : Int) - 1 := by
 have h1 : ∀ (j : Nat) (u : UInt8), b[j]? = some u -> gD b k j u = true := fun j u hj => by
  have := lW h j u hj
  rwa [Nat.zero_add] at this
 refine ⟨?_, fun u hu => ?_⟩
 ·rw [List.pairwise_iff_getElem]
  have adj : ∀ (i : Nat) (hi : i + 1 < b.length), dI b[i] < dI b[i + 1] := fun i hi => by
   have := h1 (i + 1) b[i + 1] (List.getElem?_eq_getElem hi)
   unfold gD at this
   simp only [Bool.and_eq_true, lE, List.getElem?_eq_getElem (show i < b.length by omega), decide_eq_true_eq] at this
   exact this.2
  have st : ∀ (n i : Nat) (hi : i + n + 1 < b.length), dI b[i] < dI b[i + n + 1] := by
   intro n
   induction n with
   | zero => intro i hi; exact adj i hi
   | succ n ih =>
    intro i hi
    have a1 := ih i (by omega)
    have a2 := adj (i + n + 1) (by omega)
    simp only [show i + (n + 1) + 1 = i + n + 1 + 1 by omega]
    omega
  intro i j hi hj hij
  rw [List.length_map] at hi hj
  rw [List.getElem_map, List.getElem_map]
  have := st (j - i - 1) i (by omega)
  simpa only [show i + (j - i - 1) + 1 = j by omega] using this
 ·obtain ⟨j, hj⟩ := List.mem_iff_getElem?.1 hu
  have := h1 j u hj
  unfold gD at this
  simp only [Bool.and_eq_true, decide_eq_true_eq] at this
  exact this.1
theorem Ws {b : List UInt8} {k : Nat} (h : (b.map dI).Pairwise (· < ·)) (hr : ∀ u ∈ b, 0 <= dI u /\ dI u <= (k : Int) - 1) : gf (gD b k) 0 b = true := zY fun j u hj => by
 rw [Nat.zero_add]
 have hm := hr u (List.mem_of_getElem? hj)
 unfold gD
 rw [decide_eq_true hm.1, decide_eq_true hm.2, Bool.true_and, Bool.true_and]
 cases j with
 | zero => rfl
 | succ j =>
  obtain ⟨hlt, hx⟩ := List.getElem?_eq_some_iff.1 hj
  simp only [lE, List.getElem?_eq_getElem (show j < b.length by omega)]
  rw [decide_eq_true_eq]
  have := List.pairwise_iff_getElem.1 h j (j + 1) (by rw [List.length_map]; omega) (by rw [List.length_map]; omega) (by omega)
  rw [List.getElem_map, List.getElem_map, hx] at this
  exact this
def dch (n : Int) : UInt8 := UInt8.ofNat (48 + n).toNat
theorem Xe {n : Int} (h0 : 0 <= n) (h9 : n <= 9) : ak n = mkB [dch n] := by
 rw [JP ((iv n).2 ⟨h0, by omega⟩) (by omega), TT h0 h9]
 rfl
theorem Fj : ∀ (L : List Int), (∀ n ∈ L, 0 <= n /\ n <= 9) -> Ag L = mkB (L.map dch)
 | [], _ => rfl
 | n :: L, h => by
  have hn := h n (by simp)
  rw [Ag, Xe hn.1 hn.2, Fj L fun m hm => h m (by simp [hm])]
  apply ByteArray.ext
  simp [mkB, ByteArray.data_append]
theorem Yj {n : Int} (h0 : 0 <= n) (h9 : n <= 9) : dI (dch n) = n := by
 unfold dI dch
 rw [UInt8.toNat_ofNat']
 omega
theorem Yi {u : UInt8} (h0 : 0 <= dI u) : dch (dI u) = u := by
 unfold dI at h0
 unfold dch dI
 apply UInt8.toNat_inj.1
 rw [UInt8.toNat_ofNat']
 have := u.toNat_lt
 omega
theorem Fl {b : List UInt8} {k : Nat} {n : Int} : n ∈ inL 0 (pe b k) ↔ (0 <= n /\ n < (k : Int)) /\ ∃ u ∈ b, dI u = n := by
 rw [AR]
 unfold pe
 constructor
 ·rintro ⟨j, m, h1, h2, h3⟩
  rw [List.getElem?_map] at h1
  obtain ⟨i, hi, he⟩ := Option.map_eq_some_iff.1 h1
  have hj := (List.getElem?_eq_some_iff.1 hi)
  obtain ⟨hj1, hj2⟩ := hj
  rw [List.length_range] at hj1
  rw [List.getElem_range] at hj2
  subst hj2
  subst he
  cases hh : QP b j with
  | false => rw [hh] at h2; simp at h2
  | true =>
   unfold QP at hh
   obtain ⟨u, hu, hue⟩ := List.any_eq_true.1 hh
   refine ⟨by omega, u, hu, ?_⟩
   rw [beq_iff_eq] at hue
   rw [hue, h3, Nat.zero_add]
 ·rintro ⟨⟨h0, h1⟩, u, hu, he⟩
  obtain ⟨j, rfl⟩ := Int.eq_ofNat_of_zero_le h0
  have hj : j < k := by omega
  have hh : QP b j = true := List.any_eq_true.2 ⟨u, hu, by rw [he]; exact beq_self_eq_true _⟩
  exact ⟨j, 1, by rw [List.getElem?_map, List.getElem?_range hj]; simp [hh], by omega, by rw [Nat.zero_add]⟩
theorem SA {a b : List UInt8} (h : mkB a = mkB b) : a = b := by
 have := congrArg (fun x : ByteArray => x.data.toList) h
 simpa [mkB] using this
theorem OC {b : List UInt8} {k : Nat} (hk : k <= 9) : gf (gD b k) 0 b = true ↔ Ag (inL 0 (pe b k)) = mkB b := by
 have hL : ∀ n ∈ inL 0 (pe b k), 0 <= n /\ n <= 9 := fun n hn => by have := (Fl.1 hn).1; omega
 constructor
 ·intro h
  obtain ⟨h1, h2⟩ := Fc h
  have e : inL 0 (pe b k) = b.map dI := KV (AP _ _) h1 fun n => by
   rw [Fl, List.mem_map]
   constructor
   ·rintro ⟨_, u, hu, he⟩; exact ⟨u, hu, he⟩
   ·rintro ⟨u, hu, rfl⟩; have := h2 u hu; exact ⟨by omega, u, hu, rfl⟩
  rw [Fj _ hL, e, List.map_map]
  congr 1
  conv => rhs; rw [<- List.map_id b]
  exact List.map_congr_left fun u hu => Yi (h2 u hu).1
 ·intro h
  rw [Fj _ hL] at h
  have hb := SA h
  have e : b.map dI = inL 0 (pe b k) := by
   rw [<- hb, List.map_map, hb]
   conv => rhs; rw [<- List.map_id (inL 0 (pe b k))]
   exact List.map_congr_left fun n hn => Yj (hL n hn).1 (hL n hn).2
  refine Ws (by rw [e]; exact AP _ _) fun u hu => ?_
  have : dI u ∈ inL 0 (pe b k) := by rw [<- e]; exact List.mem_map_of_mem hu
  have := (Fl.1 this).1
  omega
theorem Xn {b : List UInt8} {k : Nat} (h : gf (gD b k) 0 b = true) : b.map dI = inL 0 (pe b k) := by
 obtain ⟨h1, h2⟩ := Fc h
 refine (KV (AP _ _) h1 fun n => ?_).symm
 rw [Fl, List.mem_map]
 constructor
 ·rintro ⟨_, u, hu, he⟩; exact ⟨u, hu, he⟩
 ·rintro ⟨u, hu, rfl⟩; have := h2 u hu; exact ⟨by omega, u, hu, rfl⟩
theorem JY {c : UInt8} : ∀ {b : List UInt8}, c ∈ b -> 2 <= (parts c b).length
 | [], h => by cases h
 | x :: b, h => by
  unfold parts
  split
  ·have := UX c b
   cases hp : parts c b with
   | nil => exact absurd hp this
   | cons p ps => simp
  ·rename_i hx
   have hb : c ∈ b := by
    rcases List.mem_cons.1 h with g | g
    ·exact absurd g.symm hx
    ·exact g
   have := JY hb
   split
   ·rename_i p ps e; rw [e] at this; simpa using this
   ·rename_i e; rw [e] at this; simp at this
theorem UE {t : Tree} {ps : List az} (h : Nt t ps) (hv : (jJ ps ⟨#[99]⟩).1.size <= 1048576) (id : Int) (k : Nat) (hk : k <= 9) :
  uE t id (k : Int) = some (ot (jJ ps ⟨#[99]⟩).1 id k) := by
 simp only [uE, xq, W.D]
 rw [NM h]
 obtain ⟨v, hr⟩ : ∃ v, (jJ ps ⟨#[99]⟩).1 = v := ⟨_, rfl⟩
 simp only [W.D]
 rw [hr] at hv ⊢
 by_cases hm : (58 : UInt8) ∈ v.data.toList
 case neg =>
  rw [Yh hm]
  simp only [W.D]
  rw [AE v hv]
  simp only [W.D]
  rw [Aj (by rw [qf hm]; simp)]
  rfl
 obtain ⟨a, b, hab, ha⟩ : ∃ a b, v.data.toList = a ++ 58 :: b /\ (58 : UInt8) ∉ a := by
  rcases uG 58 v.data.toList with ⟨h1, _⟩ | ⟨a, b, h1, h2, _⟩
  ·exact absurd hm h1
  ·exact ⟨a, b, h1, h2⟩
 have hsz : v.size = a.length + 1 + b.length := by
  have := congrArg List.length hab
  simp only [List.length_append, List.length_cons] at this
  have e : v.data.toList.length = v.size := by simp
  omega
 have hparts : parts 58 v.data.toList = a :: parts 58 b := by rw [hab, la b ha]
 rw [Wx hv hab ha]
 simp only [W.D]
 rw [AE _ (by rw [me]; omega)]
 simp only [W.D]
 rw [Px k (by omega) (mkB a) b true (bZ (mkB a)) (by omega)]
 have hv2 : v = (mkB a ++ ⟨#[58]⟩) ++ mkB b := by
  apply ByteArray.ext
  apply Array.toList_inj.1
  rw [hab]
  simp [mkB, ByteArray.data_append]
 rw [Fo]
 have hbe : decide (mkB b = ⟨#[]⟩) = decide (b = []) := by
  by_cases g : b = []
  ·subst g; rfl
  ·rw [decide_eq_false g, decide_eq_false (fun e : mkB b = ⟨#[]⟩ => g (SA (b := []) e))]
 rw [hbe]
 by_cases hb : (58 : UInt8) ∈ b
 ·have h2 := JY hb
  rw [Aj (by rw [hparts, List.length_cons]; omega)]
  have hA : gf (gD b k) 0 b = false := by
   cases h : gf (gD b k) 0 b with
   | false => rfl
   | true =>
    have := (Fc h).2 58 hb
    unfold dI at this
    have e : (58 : UInt8).toNat = 58 := rfl
    omega
  rw [hA]
  cases (bZ (mkB a)).2 <;> cases ((bZ (mkB a)).1.c != id) <;> cases decide (b = []) <;> rfl
 ·have hR := Rt (v := v) (by rw [hparts, qf hb]) id k
  have hno : ¬ ((b ≠ [] /\ (bZ (mkB a)).2 = true) /\ (bZ (mkB a)).1.c = id /\ (ej (bZ (mkB a)).1 ++ ⟨#[58]⟩) ++ Ag (inL 0 (pe b k)) = v) -> ot v id k = (⟨0, 0, 0⟩, [], false) := fun g => by rw [hR, if_neg g]
  have hyes : ((b ≠ [] /\ (bZ (mkB a)).2 = true) /\ (bZ (mkB a)).1.c = id /\ (ej (bZ (mkB a)).1 ++ ⟨#[58]⟩) ++ Ag (inL 0 (pe b k)) = v) -> ot v id k = ((bZ (mkB a)).1, inL 0 (pe b k), true) := fun g => by rw [hR, if_pos g]
  clear hR
  simp only [Bool.not_true, cond_false]
  cases h3 : (bZ (mkB a)).2 with
  | false => rw [hno (by rintro ⟨⟨_, g⟩, _⟩; rw [h3] at g; cases g)]; rfl
  | true =>
  by_cases h4 : (bZ (mkB a)).1.c = id
  case neg => rw [show ((bZ (mkB a)).1.c != id) = true by rw [bne_iff_ne]; exact h4, hno (by rintro ⟨_, g, _⟩; exact h4 g)]; rfl
  rw [show ((bZ (mkB a)).1.c != id) = false by rw [bne_eq_false_iff_eq]; exact h4]
  by_cases h5 : b = []
  ·rw [decide_eq_true h5, hno (by rintro ⟨⟨g, _⟩, _⟩; exact g h5)]; rfl
  rw [decide_eq_false h5]
  obtain ⟨hx1, hx2⟩ := TF (s := mkB a) (x := (bZ (mkB a)).1) (by rw [<- h3])
  have hxt : ej (bZ (mkB a)).1 = mkB a := by unfold ej; rw [if_pos hx1, hx2]
  rw [hxt] at hno hyes
  have hiff : (mkB a ++ (⟨#[58]⟩ : ByteArray)) ++ Ag (inL 0 (pe b k)) = v ↔ Ag (inL 0 (pe b k)) = mkB b := by
   conv => lhs; rw [hv2]
   constructor
   ·intro g
    have := congrArg (fun x : ByteArray => x.data.toList) g
    simp only [ByteArray.data_append, Array.toList_append] at this
    have := List.append_cancel_left this
    apply ByteArray.ext
    exact Array.toList_inj.1 this
   ·intro g; rw [g]
  cases hA : gf (gD b k) 0 b with
  | false =>
   rw [hno (by rintro ⟨_, _, g⟩; have := (OC hk).2 (hiff.1 g); rw [hA] at this; cases this)]
   rfl
  | true =>
   rw [hyes ⟨⟨h5, h3⟩, h4, hiff.2 ((OC hk).1 hA)⟩, <- Xn hA]
   rfl
def wiB (n : Int) : Bool := decide (0 <= n) && decide (n <= 16)
def Xa (c : aQ) (i : Nat) (m : Int) : Bool := (m == 0) || ((c.phase == 0) || ((c.phase == 4) || ((c.phase == 2) && ((m == 1) && Lu c.pend (i : Int)))))
def stI (c : aQ) (i : Nat) (n : Int) : Bool := cI n && (match c.counts[i]? with
 | some m => (n == 0) == Xa c i m
 | none => false)
theorem vv (c : aQ) (hn : c.counts.length <= 1048576) : aV (fun s => (iX c s).den) 0 = some (bif c.counts.all (fun n => wiB n && !((c.phase == 0) && (n != 0))) then .inl () else .inr false) := by
 have := bK c.counts (by omega) (fun _ n => wiB n && !((c.phase == 0) && (n != 0))) (f := fun s => (iX c s).den) (fun k x hk => by
  have hlt := (List.getElem?_eq_some_iff.1 hk).1
  simp only [iX, W.D]
  rw [decide_eq_true (by omega : (k : Int) < (c.counts.length : Int)), cond_true, ag hk]
  simp only [W.D]
  rw [an _ (by omega) (by omega)]
  unfold wiB
  by_cases h1 : 0 <= x
  ·rw [decide_eq_true h1, decide_eq_false (by omega : ¬ x < 0)]
   by_cases h2 : x <= 16
   ·rw [decide_eq_true h2, decide_eq_false (by omega : ¬ x > 16)]
    cases (c.phase == 0) <;> cases (x != 0) <;> rfl
   ·rw [decide_eq_false h2, decide_eq_true (by omega : x > 16)]; rfl
  ·rw [decide_eq_false h1, decide_eq_true (by omega : x < 0)]; rfl) (by
  simp only [iX, W.D]
  rw [decide_eq_false (by omega), cond_false])
 rwa [fk] at this
theorem Yw : ∀ a b d e f h : Bool, (bif a then true else bif b then true else bif d then true else bif e then bif f then h else false else false) = (a || (b || (d || (e && (f && h))))) := by decide
theorem Ha (c : aQ) (hn : c.counts.length <= 1048576) (hp : c.pend.length <= 1048576) (hl : c.stamps.length = c.counts.length) : aV (fun s => (iY c s).den) 0 = some (bif gf (stI c) 0 c.stamps then .inl () else .inr false) :=
 bK c.stamps (by omega) (stI c) (f := fun s => (iY c s).den) (fun k x hk => by
  have hlt := (List.getElem?_eq_some_iff.1 hk).1
  have hc := List.getElem?_eq_getElem (show k < c.counts.length by omega)
  simp only [iY, W.D]
  rw [decide_eq_true (by omega : (k : Int) < (c.stamps.length : Int)), cond_true, ag hk]
  simp only [W.D]
  rw [ag hc]
  simp only [W.D, dD]
  rw [GY _ _ (by omega), an _ (by omega) (by omega)]
  simp only [W.D]
  unfold stI Xa
  rw [hc]
  simp only
  rw [Yw]
  generalize ((c.counts[k] == 0) || ((c.phase == 0) || ((c.phase == 4) || ((c.phase == 2) && ((c.counts[k] == 1) && Lu c.pend (k : Int)))))) = N
  cases N <;> cases cI x <;> cases (x == 0) <;> rfl) (by
  simp only [iY, W.D]
  rw [decide_eq_false (by omega), cond_false])
def stJ (c : aQ) (i : Nat) (m : Int) : Bool := wiB m && (match c.stamps[i]? with
 | some n => stI c i n
 | none => false)
theorem FK (c : aQ) (hn : c.counts.length <= 1048576) (hp : c.pend.length <= 1048576) (hl : c.stamps.length = c.counts.length) : aV (fun s => (cL c s).den) 0 = some (bif gf (stJ c) 0 c.counts then .inl () else .inr false) :=
 bK c.counts (by omega) (stJ c) (f := fun s => (cL c s).den) (fun k x hk => by
  have hlt := (List.getElem?_eq_some_iff.1 hk).1
  have hc := List.getElem?_eq_getElem (show k < c.stamps.length by omega)
  simp only [cL, W.D, aC, eJ, DS]
  rw [decide_eq_true (by omega : (k : Int) < (c.counts.length : Int)), cond_true, ag hk]
  simp only [W.D]
  rw [ag hc]
  simp only [W.D]
  rw [FI _ _ (by omega), an _ (by omega) (by omega)]
  simp only [W.D]
  unfold stJ stI Xa wiB
  rw [hc, hk]
  simp only
  rw [Yw]
  generalize ((x == 0) || ((c.phase == 0) || ((c.phase == 4) || ((c.phase == 2) && ((x == 1) && Lu c.pend (k : Int)))))) = N
  cases (decide (0 <= x) && decide (x <= 16)) <;> cases N <;> cases cI c.stamps[k] <;> cases (c.stamps[k] == 0) <;> rfl) (by
  simp only [cL, W.D]
  rw [decide_eq_false (by omega), cond_false])
theorem YE (c : aQ) (hl : c.stamps.length = c.counts.length) : gf (stJ c) 0 c.counts = (c.counts.all wiB && gf (stI c) 0 c.stamps) := by
 rw [Bool.eq_iff_iff, Bool.and_eq_true]
 constructor
 ·intro h
  have h1 : ∀ (j : Nat) (m : Int), c.counts[j]? = some m -> stJ c j m = true := fun j m hj => by
   have := lW h j m hj
   rwa [Nat.zero_add] at this
  refine ⟨List.all_eq_true.2 fun m hm => ?_, zY fun j n hj => ?_⟩
  ·obtain ⟨j, hj⟩ := List.mem_iff_getElem?.1 hm
   have := h1 j m hj
   unfold stJ at this
   rw [Bool.and_eq_true] at this
   exact this.1
  ·rw [Nat.zero_add]
   have hlt := (List.getElem?_eq_some_iff.1 hj).1
   have := h1 j _ (List.getElem?_eq_getElem (show j < c.counts.length by omega))
   unfold stJ at this
   rw [Bool.and_eq_true, hj] at this
   exact this.2
 ·rintro ⟨h1, h2⟩
  refine zY fun j m hj => ?_
  rw [Nat.zero_add]
  have hlt := (List.getElem?_eq_some_iff.1 hj).1
  have hs := List.getElem?_eq_getElem (show j < c.stamps.length by omega)
  have := lW h2 j _ hs
  rw [Nat.zero_add] at this
  unfold stJ
  rw [List.all_eq_true.1 h1 m (List.mem_of_getElem? hj), hs, Bool.true_and]
  exact this
def pdB (c : aQ) (i : Nat) (n : Int) : Bool := ((decide (0 <= n) && decide (n < (c.counts.length : Int))) && (match c.counts[n.toNat]? with
 | some m => !(m == 0)
 | none => false)) && lE (fun y x => decide (y < x)) c.pend i n
theorem Qz (c : aQ) (hn : c.counts.length <= 1048576) (hp : c.pend.length <= 1048576) : rQ c.pend c.counts = some (gf (pdB c) 0 c.pend) := by
 have h := bK c.pend (by omega) (pdB c) (f := fun s => (jP c.pend c.counts s).den) (fun k x hk => by
  have hlt := (List.getElem?_eq_some_iff.1 hk).1
  simp only [jP, W.D]
  rw [decide_eq_true (by omega : (k : Int) < (c.pend.length : Int)), cond_true, ag hk]
  simp only [W.D]
  rw [an ((k : Int) + 1) (by omega) (by omega)]
  unfold pdB
  by_cases h1 : 0 <= x
  case neg => rw [decide_eq_true (by omega : x < 0), decide_eq_false h1]; rfl
  rw [decide_eq_false (by omega : ¬ x < 0), decide_eq_true h1]
  by_cases h2 : x < (c.counts.length : Int)
  case neg => rw [decide_eq_true (by omega : x >= (c.counts.length : Int)), decide_eq_false h2]; rfl
  rw [decide_eq_false (by omega : ¬ x >= (c.counts.length : Int)), decide_eq_true h2]
  have hc := List.getElem?_eq_getElem (show x.toNat < c.counts.length by omega)
  have hg : aB c.counts x = some (c.counts[x.toNat]'(by omega)) := by have := ag hc; rwa [Int.toNat_of_nonneg h1] at this
  simp only [cond_false, W.D]
  rw [hg, hc]
  simp only [W.D, Bool.true_and]
  cases (c.counts[x.toNat]'(by omega) == 0) with
  | true => rfl
  | false =>
   simp only [cond_false, W.D, Bool.not_false, Bool.true_and]
   cases k with
   | zero => rfl
   | succ k =>
    rw [decide_eq_true (by omega : ((k + 1 : Nat) : Int) > 0), cond_true, an (((k + 1 : Nat) : Int) - 1) (by omega) (by omega), show (((k + 1 : Nat) : Int) - 1) = (k : Int) by omega, ag (List.getElem?_eq_getElem (show k < c.pend.length by omega))]
    simp only [W.D, lE, List.getElem?_eq_getElem (show k < c.pend.length by omega)]
    by_cases h3 : c.pend[k]'(by omega) < x
    ·rw [decide_eq_true h3, decide_eq_false (by omega)]; rfl
    ·rw [decide_eq_false h3, decide_eq_true (by omega)]; rfl) (by
  simp only [jP, W.D]
  rw [decide_eq_false (by omega), cond_false])
 simp only [rQ, tP, W.D]
 rw [h]
 cases gf (pdB c) 0 c.pend <;> rfl
theorem Se (c : aQ) (hn : c.counts.length <= 1048576) (hp : c.pend.length <= 1048576) : iS c = some (gf (pdB c) 0 c.pend && (decide ((c.pend.length : Int) > 0) == decide (c.phase >= 2))) := by
 have h := bK c.pend (by omega) (pdB c) (f := fun s => (ep c s).den) (fun k x hk => by
  have hlt := (List.getElem?_eq_some_iff.1 hk).1
  simp only [ep, W.D, aC, eJ]
  rw [decide_eq_true (by omega : (k : Int) < (c.pend.length : Int)), cond_true, ag hk]
  simp only [W.D]
  rw [an ((k : Int) + 1) (by omega) (by omega), an ((c.counts.length : Int) - 1) (by omega) (by omega)]
  unfold pdB
  by_cases h1 : 0 <= x
  case neg => rw [decide_eq_false h1]; rfl
  rw [decide_eq_true h1]
  by_cases h2 : x < (c.counts.length : Int)
  case neg => rw [decide_eq_false (by omega : ¬ x <= (c.counts.length : Int) - 1), decide_eq_false h2]; rfl
  rw [decide_eq_true (by omega : x <= (c.counts.length : Int) - 1), decide_eq_true h2]
  have hc := List.getElem?_eq_getElem (show x.toNat < c.counts.length by omega)
  have hg : aB c.counts x = some (c.counts[x.toNat]'(by omega)) := by have := ag hc; rwa [Int.toNat_of_nonneg h1] at this
  simp only [Bool.true_and, Bool.not_true, cond_false, W.D]
  rw [hg, hc]
  simp only [W.D, Bool.true_and]
  cases (c.counts[x.toNat]'(by omega) == 0) with
  | true => rfl
  | false =>
   simp only [cond_false, W.D, Bool.not_false, Bool.true_and]
   cases k with
   | zero => rfl
   | succ k =>
    rw [decide_eq_true (by omega : ((k + 1 : Nat) : Int) > 0), cond_true, an (((k + 1 : Nat) : Int) - 1) (by omega) (by omega), show (((k + 1 : Nat) : Int) - 1) = (k : Int) by omega, ag (List.getElem?_eq_getElem (show k < c.pend.length by omega))]
    simp only [W.D, lE, List.getElem?_eq_getElem (show k < c.pend.length by omega)]
    by_cases h3 : c.pend[k]'(by omega) < x
    ·rw [decide_eq_true h3, decide_eq_false (by omega)]; rfl
    ·rw [decide_eq_false h3, decide_eq_true (by omega)]; rfl) (by
  simp only [ep, W.D]
  rw [decide_eq_false (by omega), cond_false])
 simp only [iS, lx, W.D]
 rw [h]
 cases gf (pdB c) 0 c.pend <;> rfl
def TO (x y : Tx) : Bool := (x.c == y.c) && ((x.e == y.e) && ((x.n == y.n) && true))
theorem Xv {x y : Tx} (h : TO x y = true) : x = y := by
 unfold TO at h
 simp only [Bool.and_eq_true, beq_iff_eq, and_true] at h
 cases x; cases y
 simp only at h
 rw [h.1, h.2.1, h.2.2]
def gtB (c : aQ) (i : Nat) (m : Msg) : Bool := ((((mOk m && (m.kind == 2)) && TO m.tx c.tx) && (m.code == 0)) && ((decide (m.shard < (c.counts.length : Int)) && (match c.counts[m.shard.toNat]? with
 | some n => !(n == 0)
 | none => false)) && !Lu c.pend m.shard)) && !((c.got.take i).any fun y => y.shard == m.shard)
theorem JL {m : Msg} (h : mOk m = true) : 0 <= m.shard := by
 unfold mOk at h
 simp only [Bool.and_eq_true, decide_eq_true_eq] at h
 exact h.1.2.1
theorem Lz (xs : List Msg) (q : Msg) (hn : xs.length < 4611686018427387904) : aU xs q = some (xs.any fun y => y.shard == q.shard) := by
 have h := zh (fun y : Msg => y.shard == q.shard) xs hn (f := fun s => (aS xs q s).den) (fun k x hk => by
  have hlt := (List.getElem?_eq_some_iff.1 hk).1
  simp only [aS, W.D]
  rw [decide_eq_true (by omega : (k : Int) < (xs.length : Int)), cond_true, ag hk]
  simp only [W.D, jB, iG]
  rw [an _ (by omega) (by omega)]
  cases x.shard == q.shard <;> rfl) (by
  simp only [aS, W.D]
  rw [decide_eq_false (by omega), cond_false])
 simp only [aU, bA, bP, bL, W.D]
 exact h
theorem Py (c : aQ) (hn : c.counts.length <= 1048576) (hp : c.pend.length <= 1048576) (hg : c.got.length <= 1048576) (hm : ∀ m ∈ c.got, m.pairs.length <= 1048576) : aV (fun s => (dE c s).den) 0 = some (bif gf (gtB c) 0 c.got then .inl () else .inr false) :=
 bK c.got (by omega) (gtB c) (f := fun s => (dE c s).den) (fun k x hk => by
  have hlt := (List.getElem?_eq_some_iff.1 hk).1
  have hmx := hm x (List.mem_of_getElem? hk)
  simp only [dE, W.D]
  rw [decide_eq_true (by omega : (k : Int) < (c.got.length : Int)), cond_true, ag hk]
  simp only [W.D]
  rw [if_pos (by omega), List.drop_zero, Int.toNat_natCast, Lz _ _ (by rw [List.length_take]; omega), Pw x (by omega), an _ (by omega) (by omega)]
  simp only [W.D]
  unfold gtB TO
  cases hok : mOk x with
  | false => rfl
  | true =>
  have hsh := JL hok
  simp only [Bool.not_true, cond_false, W.D, Bool.true_and, bne]
  cases (x.kind == 2) with
  | false => rfl
  | true =>
  simp only [Bool.not_true, cond_false, W.D, Bool.true_and]
  cases ((x.tx.c == c.tx.c) && ((x.tx.e == c.tx.e) && ((x.tx.n == c.tx.n) && true))) with
  | false => rfl
  | true =>
  simp only [Bool.not_true, cond_false, W.D, Bool.true_and]
  cases (x.code == 0) with
  | false => rfl
  | true =>
  simp only [Bool.not_true, cond_false, W.D, Bool.true_and]
  by_cases h1 : x.shard < (c.counts.length : Int)
  case neg => rw [decide_eq_true (by omega : x.shard >= (c.counts.length : Int)), decide_eq_false h1]; rfl
  rw [decide_eq_false (by omega : ¬ x.shard >= (c.counts.length : Int)), decide_eq_true h1]
  have hc := List.getElem?_eq_getElem (show x.shard.toNat < c.counts.length by omega)
  have hgg : aB c.counts x.shard = some (c.counts[x.shard.toNat]'(by omega)) := by have := ag hc; rwa [Int.toNat_of_nonneg hsh] at this
  simp only [cond_false, W.D]
  rw [hgg, hc, FI _ _ (by omega)]
  simp only [W.D]
  cases (c.counts[x.shard.toNat]'(by omega) == 0) <;> cases Lu c.pend x.shard <;> cases ((c.got.take k).any fun y => y.shard == x.shard) <;> rfl) (by
  simp only [dE, W.D]
  rw [decide_eq_false (by omega), cond_false])
theorem ML (c : aQ) (k : Nat) (x : Msg) (hk : k <= c.got.length) (hg : c.got.length <= 1048576) : aV (fun s => (ja c (k : Int) x s).den) 0 = some (bif (c.got.take k).any (fun y => y.shard == x.shard) then .inr (.inr (.inr (.inr false))) else .inl ()) := by
 have h := rv (f := fun s => (ja c (k : Int) x s).den) (c.got.take k) (fun _ y => if y.shard == x.shard then some () else none) (fun o => match o with | some _ => .inr (.inr (.inr (.inr false))) | none => .inl ()) (by rw [List.length_take]; omega) (fun j y hj => by
  have hlt := (List.getElem?_eq_some_iff.1 hj).1
  rw [List.length_take] at hlt
  rw [List.getElem?_take_of_lt (by omega)] at hj
  simp only [ja, W.D]
  rw [decide_eq_true (by omega : (j : Int) < (k : Int)), cond_true, ag hj]
  simp only [W.D]
  cases y.shard == x.shard <;> rfl) (by
  simp only [ja, W.D]
  rw [List.length_take, decide_eq_false (by omega), cond_false])
 rw [h, DM]
 cases (c.got.take k).any fun y => y.shard == x.shard <;> rfl
theorem Qw (c : aQ) (hn : c.counts.length <= 1048576) (hp : c.pend.length <= 1048576) (hg : c.got.length <= 1048576) (hm : ∀ m ∈ c.got, m.pairs.length <= 1048576) : aV (fun s => (iZ c s).den) 0 = some (bif gf (gtB c) 0 c.got then .inl () else .inr false) :=
 bK c.got (by omega) (gtB c) (f := fun s => (iZ c s).den) (fun k x hk => by
  have hlt := (List.getElem?_eq_some_iff.1 hk).1
  have hmx := hm x (List.mem_of_getElem? hk)
  simp only [iZ, W.D]
  rw [decide_eq_true (by omega : (k : Int) < (c.got.length : Int)), cond_true, ag hk]
  simp only [W.D]
  rw [Qv x (by omega), an _ (by omega) (by omega), ML c k x (by omega) hg]
  simp only [W.D]
  unfold gtB TO
  cases hok : mOk x with
  | false => rfl
  | true =>
  have hsh := JL hok
  simp only [Bool.not_true, cond_false, W.D, Bool.true_and, bne]
  cases (x.kind == 2) with
  | false => rfl
  | true =>
  simp only [Bool.not_true, cond_false, W.D, Bool.true_and]
  cases ((x.tx.c == c.tx.c) && ((x.tx.e == c.tx.e) && ((x.tx.n == c.tx.n) && true))) with
  | false => rfl
  | true =>
  simp only [Bool.not_true, cond_false, W.D, Bool.true_and]
  cases (x.code == 0) with
  | false => rfl
  | true =>
  simp only [Bool.not_true, cond_false, W.D, Bool.true_and]
  by_cases h1 : x.shard < (c.counts.length : Int)
  case neg => rw [decide_eq_true (by omega : x.shard >= (c.counts.length : Int)), decide_eq_false h1]; rfl
  rw [decide_eq_false (by omega : ¬ x.shard >= (c.counts.length : Int)), decide_eq_true h1]
  have hc := List.getElem?_eq_getElem (show x.shard.toNat < c.counts.length by omega)
  have hgg : aB c.counts x.shard = some (c.counts[x.shard.toNat]'(by omega)) := by have := ag hc; rwa [Int.toNat_of_nonneg hsh] at this
  simp only [cond_false, W.D]
  rw [hgg, hc, GY _ _ (by omega)]
  simp only [W.D]
  cases (c.counts[x.shard.toNat]'(by omega) == 0) <;> cases Lu c.pend x.shard <;> cases ((c.got.take k).any fun y => y.shard == x.shard) <;> rfl) (by
  simp only [iZ, W.D]
  rw [decide_eq_false (by omega), cond_false])
theorem JW {ps : List az} (h : ∀ p ∈ ps, p.val.size <= 60) (k : ByteArray) : (jJ ps k).1.size <= 60 := by
 unfold jJ
 split
 ·rename_i p e
  exact h p (List.mem_of_find?_eq_some e)
 ·exact Nat.zero_le _
theorem UY {ps : List az} (h : Ov ps = true) : ∀ p ∈ ps, p.val.size <= 60 := fun p hp => by
 unfold Ov at h
 rw [Bool.and_eq_true] at h
 obtain ⟨j, hj⟩ := List.mem_iff_getElem?.1 hp
 have := lW h.2 j p hj
 simp only [BK, sq, Bool.and_eq_true, decide_eq_true_eq] at this
 omega
theorem Wg {t : Tree} {ps : List az} (h : Nt t ps) : ∀ p ∈ ps, p.val.size <= 60 := by
 rcases h with ⟨_, rfl⟩ | ⟨x, o, hz, ht, _, rfl⟩
 ·intro p hp; cases hp
 ·exact UY (MS ht).2.2.1
theorem sZ (c : aQ) (hn : c.counts.length <= 1048576) (hp : c.pend.length <= 1048576) (h1 : c.splits.length <= 1048576) (hs : c.stamps.length <= 1048576) :
  fo c = some ((decide (c.counts.length = c.splits.length + 1) && decide (c.stamps.length = c.counts.length)) && (c.counts.all wiB && gf (stI c) 0 c.stamps)) := by
 simp only [fo, iH, W.D]
 rw [an ((c.splits.length : Int) + 1) (by omega) (by omega)]
 by_cases e1 : c.counts.length = c.splits.length + 1
 case neg => rw [show ((c.counts.length : Int) != (c.splits.length : Int) + 1) = true by rw [bne_iff_ne]; omega, decide_eq_false e1]; rfl
 rw [show ((c.counts.length : Int) != (c.splits.length : Int) + 1) = false by rw [bne_eq_false_iff_eq]; omega, decide_eq_true e1]
 by_cases e2 : c.stamps.length = c.counts.length
 case neg => rw [show ((c.stamps.length : Int) != (c.splits.length : Int) + 1) = true by rw [bne_iff_ne]; omega, decide_eq_false e2]; rfl
 rw [show ((c.stamps.length : Int) != (c.splits.length : Int) + 1) = false by rw [bne_eq_false_iff_eq]; omega, decide_eq_true e2]
 simp only [cond_false, W.D]
 rw [FK c hn hp e2, YE c e2]
 cases (c.counts.all wiB && gf (stI c) 0 c.stamps) <;> rfl
def Wt (c : aQ) : Bool := bif (c.phase == 2) then aOk c.ask else zA c.ask && (c.got.length == 0)
theorem UF (c : aQ) (hn : c.counts.length <= 1048576) (hp : c.pend.length <= 1048576) (hg : c.got.length <= 1048576) (hm : ∀ m ∈ c.got, m.pairs.length <= 1048576) :
  jW c = some (Wt c && gf (gtB c) 0 c.got) := by
 simp only [jW, mE, W.D, DP, De, bne]
 rw [Py c hn hp hg hm]
 unfold Wt
 cases c.phase == 2 with
 | true =>
  simp only [Bool.not_true, cond_false, cond_true]
  cases gf (gtB c) 0 c.got with
  | true => simp
  | false => simp
 | false =>
  simp only [Bool.not_false, cond_true, cond_false]
  have e : ((c.got.length : Int) == 0) = (c.got.length == 0) := by
   by_cases h : c.got.length = 0
   ·rw [beq_iff_eq.2 h, beq_iff_eq.2 (by omega)]
   ·rw [beq_eq_false_iff_ne.2 h, beq_eq_false_iff_ne.2 (by omega)]
  rw [e]
  by_cases h : c.got.length = 0
  ·rw [beq_iff_eq.2 h, List.eq_nil_of_length_eq_zero h]
   cases zA c.ask <;> rfl
  ·rw [beq_eq_false_iff_ne.2 h]
   cases zA c.ask <;> rfl
def XJ (c : aQ) (ps : List az) : Bool := bif (c.phase == 4) then ((ot (jJ ps ⟨#[99]⟩).1 c.id c.counts.length).2.2 && (TO (ot (jJ ps ⟨#[99]⟩).1 c.id c.counts.length).1 c.tx && decide ((ot (jJ ps ⟨#[99]⟩).1 c.id c.counts.length).2.1 = inL 0 c.counts))) else !(ot (jJ ps ⟨#[99]⟩).1 c.id c.counts.length).2.2
def Wm (c : aQ) : Bool := (decide (0 <= c.age) && decide (c.age <= 7)) && (((c.phase == 2) || (c.phase == 3)) || (c.age == 0))
def txB (c : aQ) : Bool := (c.phase == 0) || (rS c.tx && (c.tx.c == c.id))
def XA (c : aQ) : Bool := !(c.phase == 0) || c.counts.all fun n => n == 0
theorem QZ {α : Type} (f g : α -> Bool) : ∀ xs : List α, (xs.all fun x => f x && g x) = (xs.all f && xs.all g)
 | [] => rfl
 | x :: xs => by
  rw [List.all_cons, List.all_cons, List.all_cons, QZ f g xs]
  cases f x <;> cases g x <;> simp
theorem Zh (c : aQ) : (c.counts.all fun n => wiB n && !((c.phase == 0) && (n != 0))) = (c.counts.all wiB && XA c) := by
 rw [QZ]
 congr 1
 unfold XA
 cases (c.phase == 0) with
 | false => simp
 | true =>
  simp only [Bool.true_and, Bool.not_true, Bool.false_or, bne, Bool.not_not]
theorem XB {cs : List Int} (h : cs.all wiB = true) : (cs.all fun n => n == 0) = decide ((inL 0 cs).length = 0) := by
 rw [Bool.eq_iff_iff, decide_eq_true_eq]
 constructor
 ·intro g
  cases hL : inL 0 cs with
  | nil => rfl
  | cons n L =>
   obtain ⟨j, m, a, b, _⟩ := AR.1 (show n ∈ inL 0 cs by rw [hL]; simp)
   have := List.all_eq_true.1 g m (List.mem_of_getElem? a)
   rw [beq_iff_eq] at this
   omega
 ·intro g
  refine List.all_eq_true.2 fun m hm => ?_
  obtain ⟨j, hj⟩ := List.mem_iff_getElem?.1 hm
  have h1 := List.all_eq_true.1 h m hm
  unfold wiB at h1
  simp only [Bool.and_eq_true, decide_eq_true_eq] at h1
  rw [beq_iff_eq]
  by_cases h0 : m > 0
  ·have : ((0 + j : Nat) : Int) ∈ inL 0 cs := AR.2 ⟨j, m, hj, h0, rfl⟩
   rw [List.eq_nil_of_length_eq_zero g] at this
   cases this
  ·omega
theorem Rs {v : ByteArray} {id : Int} {k : Nat} (h : (ot v id k).2.2 = true) : (ej (ot v id k).1 ++ ⟨#[58]⟩) ++ Ag (ot v id k).2.1 = v := by
 unfold ot at h ⊢
 split at h
 ·rename_i a b e
  split at h
  ·rename_i g
   rw [if_pos g]
   exact g.2.2
  ·cases h
 ·cases h
theorem Wy {id : Int} {k : Nat} : (ot ⟨#[]⟩ id k).2.2 = false := by rw [Aj (by decide)]
def SV (c : aQ) (ps : List az) : Bool := ((c.counts.all wiB && XA c) && gf (stI c) 0 c.stamps) && ((gf (pdB c) 0 c.pend && (decide ((c.pend.length : Int) > 0) == decide (c.phase >= 2))) && (txB c && ((Wt c && gf (gtB c) 0 c.got) && (Wm c && XJ c ps))))
def EB (c : aQ) (e : Int) : Prop := (0 <= c.id /\ c.id <= 7) /\ (1 <= c.epoch /\ c.epoch = e) /\ (0 <= c.num /\ c.num <= 999) /\ (0 <= c.phase /\ c.phase <= 4)
theorem Kj (c : aQ) (ps : List az) (hO : nS 1048576 c) (hB : ∀ x ∈ c.store.disk.sheets, aJ x.bytes) (hm : ∀ m ∈ c.got, m.pairs.length <= 1048576) (h : Nt c.store.tree ps) (hE : EB c (epo ps)) (h1 : Vm c.splits = true) (h2 : Vp c.store = true) (hl : c.counts.length = c.splits.length + 1) (hs : c.stamps.length = c.counts.length) (h9 : c.counts.length <= 9) :
  ef c = some (SV c ps) := by
 obtain ⟨⟨o1, _⟩, ⟨o2, _, _⟩, o3, o4, o5, o6, o7⟩ := hO
 have o3' : c.counts.length <= 1048576 := o3
 have o4' : c.stamps.length <= 1048576 := o4
 have o5' : c.pend.length <= 1048576 := o5
 have o7' : c.got.length <= 1048576 := o7.1
 obtain ⟨⟨e1, e2⟩, ⟨e3, e4⟩, ⟨e5, e6⟩, e7, e8⟩ := hE
 simp only [ef, eK, W.D]
 rw [decide_eq_false (by omega : ¬ c.id < 0), decide_eq_false (by omega : ¬ c.id > 7), sG _ (by omega), h1]
 simp only [Bool.not_true, cond_false, W.D]
 rw [yI _ hB o2, h2]
 simp only [Bool.not_true, cond_false, W.D]
 rw [decide_eq_false (by omega : ¬ c.epoch < 1), rM h]
 simp only [cond_false, W.D]
 rw [show (c.epoch != epo ps) = false by rw [bne_eq_false_iff_eq]; exact e4, decide_eq_false (by omega : ¬ c.num < 0), decide_eq_false (by omega : ¬ c.num > 999)]
 simp only [cond_false, W.D]
 rw [decide_eq_false (by omega : ¬ c.phase < 0), decide_eq_false (by omega : ¬ c.phase > 4), an _ (by omega) (by omega), show ((c.counts.length : Int) != (c.splits.length : Int) + 1) = false by rw [bne_eq_false_iff_eq]; omega]
 simp only [cond_false, W.D]
 rw [vv c o3', cq, Zh, show ((c.stamps.length : Int) != (c.counts.length : Int)) = false by rw [bne_eq_false_iff_eq]; omega, Ha c o3' o5' hs, cq, Qz c o3' o5', Qw c o3' o5' o7' hm, cq]
 simp only [cond_false, W.D, BU, wV, De]
 unfold SV
 cases (c.counts.all wiB && XA c) with
 | false => rfl
 | true =>
 cases gf (stI c) 0 c.stamps with
 | false => rfl
 | true =>
 simp only [cond_true, Bool.true_and]
 cases gf (pdB c) 0 c.pend with
 | false => rfl
 | true =>
 simp only [Bool.not_true, cond_false, Bool.true_and]
 cases (decide ((c.pend.length : Int) > 0) == decide (c.phase >= 2)) with
 | false => rfl
 | true =>
 simp only [Bool.not_true, cond_false, Bool.true_and, bne]
 have hT : (bif !(c.phase == 0) then bif !rS c.tx then true else !(c.tx.c == c.id) else false) = !txB c := by
  unfold txB
  cases (c.phase == 0) <;> cases rS c.tx <;> cases (c.tx.c == c.id) <;> rfl
 rw [hT]
 cases txB c with
 | false => rfl
 | true =>
 simp only [Bool.not_true, cond_false, Bool.true_and]
 have hgl : decide ((c.got.length : Int) > 0) = !(c.got.length == 0) := by
  by_cases h : c.got.length = 0
  ·rw [beq_iff_eq.2 h, decide_eq_false (by omega)]; rfl
  ·rw [beq_eq_false_iff_ne.2 h, decide_eq_true (by omega)]; rfl
 rw [hgl]
 have hA : (bif (c.phase == 2) then bif !aOk c.ask then true else bif !(c.phase == 2) then bif !zA c.ask then true else !(c.got.length == 0) else false else bif !(c.phase == 2) then bif !zA c.ask then true else !(c.got.length == 0) else false) = !Wt c := by
  unfold Wt
  cases (c.phase == 2) <;> cases aOk c.ask <;> cases zA c.ask <;> cases (c.got.length == 0) <;> rfl
 rw [hA]
 cases Wt c with
 | false => rfl
 | true =>
 simp only [Bool.not_true, cond_false, Bool.true_and]
 cases gf (gtB c) 0 c.got with
 | false => rfl
 | true =>
 simp only [cond_true, cond_false, Bool.true_and]
 have hG : (bif decide (c.age < 0) then true else bif decide (c.age >= 8) then true else bif !(bif (c.phase == 2) then true else (c.phase == 3)) then !(c.age == 0) else false) = !Wm c := by
  unfold Wm
  by_cases a1 : 0 <= c.age
  ·rw [decide_eq_true a1, decide_eq_false (by omega : ¬ c.age < 0)]
   by_cases a2 : c.age <= 7
   ·rw [decide_eq_true a2, decide_eq_false (by omega : ¬ c.age >= 8)]
    cases (c.phase == 2) <;> cases (c.phase == 3) <;> cases (c.age == 0) <;> rfl
   ·rw [decide_eq_false a2, decide_eq_true (by omega : c.age >= 8)]; rfl
  ·rw [decide_eq_false a1, decide_eq_true (by omega : c.age < 0)]; rfl
 rw [hG]
 cases Wm c with
 | false => rfl
 | true =>
 simp only [Bool.not_true, cond_false, Bool.true_and]
 have hv := JW (Wg h) ⟨#[99]⟩
 obtain ⟨cs, d1, d2⟩ := Vg h (by omega) c.id c.counts.length o3'
 rw [GX h _ rfl]
 simp only [W.D]
 rw [d1]
 simp only [W.D]
 unfold XJ
 have hmk := @Rs (jJ ps ⟨#[99]⟩).1 c.id c.counts.length
 have hne : (jJ ps ⟨#[99]⟩).2 = false -> (ot (jJ ps ⟨#[99]⟩).1 c.id c.counts.length).2.2 = false := fun g => by rw [SM g]; exact Wy
 generalize ot (jJ ps ⟨#[99]⟩).1 c.id c.counts.length = r at d1 d2 hmk hne ⊢
 cases (c.phase == 4) with
 | false => rfl
 | true =>
 simp only [Bool.not_true, cond_false, cond_true, W.D]
 cases hok : r.2.2 with
 | false => cases (jJ ps ⟨#[99]⟩).2 <;> rfl
 | true =>
 cases hth : (jJ ps ⟨#[99]⟩).2 with
 | false => rw [hne hth] at hok; cases hok
 | true =>
 simp only [cond_true, W.D, Bool.true_and]
 rw [show ((r.1.c == c.tx.c) && ((r.1.e == c.tx.e) && ((r.1.n == c.tx.n) && true))) = TO r.1 c.tx from rfl]
 obtain ⟨d3, d4⟩ := d2 hok
 cases htx : TO r.1 c.tx with
 | false => rfl
 | true =>
 simp only [cond_true, W.D, Bool.true_and]
 have hl1 := wG 0 cs
 rw [Td cs (by omega), Td c.counts o3']
 simp only [W.D]
 rw [Kp _ _ (by omega), d3]
 simp only [W.D]
 by_cases hL : r.2.1 = inL 0 c.counts
 case neg => rw [decide_eq_false hL]; rfl
 rw [decide_eq_true hL, Ks _ _ o3']
 simp only [cond_true, W.D]
 have := hmk hok
 rw [Xv htx, hL] at this
 rw [this]
 simp
theorem II (c : aQ) (ps : List az) (hO : nS 1048576 c) (hB : ∀ x ∈ c.store.disk.sheets, aJ x.bytes) (hm : ∀ m ∈ c.got, m.pairs.length <= 1048576) (h : Nt c.store.tree ps) (hE : EB c (epo ps)) (h1 : Vm c.splits = true) (h2 : Vp c.store = true) (hl : c.counts.length = c.splits.length + 1) (hs : c.stamps.length = c.counts.length) (h9 : c.counts.length <= 9) :
  dZ c = some (SV c ps) := by
 obtain ⟨⟨o1, _⟩, ⟨o2, _, _⟩, o3, o4, o5, o6, o7⟩ := hO
 have o3' : c.counts.length <= 1048576 := o3
 have o4' : c.stamps.length <= 1048576 := o4
 have o5' : c.pend.length <= 1048576 := o5
 have o7' : c.got.length <= 1048576 := o7.1
 obtain ⟨⟨e1, e2⟩, ⟨e3, e4⟩, ⟨e5, e6⟩, e7, e8⟩ := hE
 simp only [dZ, eH, W.D, aC, eJ]
 rw [decide_eq_true e1, decide_eq_true e2, uF _ (by omega), h1]
 simp only [Bool.not_true, Bool.true_and, cond_false, W.D]
 rw [yo _ hB o2, h2]
 simp only [Bool.not_true, cond_false, W.D]
 rw [decide_eq_false (by omega : ¬ c.epoch < 1), rn h]
 simp only [cond_false, W.D]
 rw [show (c.epoch != epo ps) = false by rw [bne_eq_false_iff_eq]; exact e4, decide_eq_true e5, decide_eq_true e6, decide_eq_true e7, decide_eq_true e8]
 simp only [Bool.not_true, Bool.true_and, cond_false, W.D]
 rw [sZ c o3' o5' (by omega) o4', decide_eq_true hl, decide_eq_true hs, Se c o3' o5', UF c o3' o5' o7' hm, WQ c o3']
 simp only [Bool.not_true, Bool.true_and, cond_false, W.D, AG, bne]
 have hv := JW (Wg h) ⟨#[99]⟩
 rw [UE h (by omega) c.id c.counts.length h9]
 simp only [W.D]
 have hl2 : ((ot (jJ ps ⟨#[99]⟩).1 c.id c.counts.length).2.1).length < 4611686018427387904 := by
  unfold ot
  split
  ·rename_i a b e
   have := wG 0 (pe b c.counts.length)
   have h2 : (pe b c.counts.length).length = c.counts.length := by simp [pe]
   split
   ·simp only; omega
   ·simp
  ·simp
 rw [An _ _ hl2]
 have hG : (bif !(decide (0 <= c.age) && decide (c.age <= 7)) then true else bif decide (c.age > 0) then bif !(c.phase == 2) then !(c.phase == 3) else false else false) = !Wm c := by
  unfold Wm
  by_cases a1 : 0 <= c.age
  case neg => rw [decide_eq_false a1]; rfl
  rw [decide_eq_true a1]
  by_cases a2 : c.age <= 7
  case neg => rw [decide_eq_false a2]; rfl
  rw [decide_eq_true a2]
  by_cases a3 : c.age = 0
  ·rw [beq_iff_eq.2 a3, decide_eq_false (by omega)]
   cases (c.phase == 2) <;> cases (c.phase == 3) <;> rfl
  ·rw [beq_eq_false_iff_ne.2 a3, decide_eq_true (by omega)]
   cases (c.phase == 2) <;> cases (c.phase == 3) <;> rfl
 have hF : (bif !(c.phase == 4) then some (!(ot (jJ ps ⟨#[99]⟩).1 c.id c.counts.length).2.2) else some (bif (ot (jJ ps ⟨#[99]⟩).1 c.id c.counts.length).2.2 then bif TO (ot (jJ ps ⟨#[99]⟩).1 c.id c.counts.length).1 c.tx then decide ((ot (jJ ps ⟨#[99]⟩).1 c.id c.counts.length).2.1 = inL 0 c.counts) else false else false)) = some (XJ c ps) := by
  unfold XJ
  cases (c.phase == 4) <;> cases (ot (jJ ps ⟨#[99]⟩).1 c.id c.counts.length).2.2 <;> cases TO (ot (jJ ps ⟨#[99]⟩).1 c.id c.counts.length).1 c.tx <;> rfl
 unfold SV
 cases hC : c.counts.all wiB with
 | false => rfl
 | true =>
 cases gf (stI c) 0 c.stamps with
 | false => simp
 | true =>
 simp only [Bool.not_true, cond_false, Bool.true_and, Bool.and_true]
 cases gf (pdB c) 0 c.pend with
 | false => simp
 | true =>
 cases (decide ((c.pend.length : Int) > 0) == decide (c.phase >= 2)) with
 | false => simp
 | true =>
 simp only [Bool.not_true, cond_false, Bool.true_and, Bool.and_true]
 cases (Wt c && gf (gtB c) 0 c.got) with
 | false => simp
 | true =>
 simp only [Bool.not_true, cond_false, Bool.true_and, Bool.and_true]
 rw [hG]
 cases Wm c with
 | false => simp
 | true =>
 simp only [Bool.not_true, cond_false, Bool.true_and, Bool.and_true]
 have hz := XB hC
 have hZ : (bif (c.phase == 0) then bif decide (((inL 0 c.counts).length : Int) > 0) then true else bif !(c.phase == 0) then bif !rS c.tx then true else !(c.tx.c == c.id) else false else bif !(c.phase == 0) then bif !rS c.tx then true else !(c.tx.c == c.id) else false) = !(XA c && txB c) := by
  unfold XA txB
  rw [hz]
  have hd : decide (((inL 0 c.counts).length : Int) > 0) = !decide ((inL 0 c.counts).length = 0) := by
   by_cases g : (inL 0 c.counts).length = 0
   ·rw [decide_eq_true g, decide_eq_false (by omega)]; rfl
   ·rw [decide_eq_false g, decide_eq_true (by omega)]; rfl
  rw [hd]
  cases (c.phase == 0) <;> cases decide ((inL 0 c.counts).length = 0) <;> cases rS c.tx <;> cases (c.tx.c == c.id) <;> rfl
 rw [hZ]
 cases XA c <;> cases txB c <;> try rfl
 rw [show (some (true && (true && XJ c ps)) : Option Bool) = some (XJ c ps) from rfl, <- hF]
 unfold TO
 simp only [Bool.not_true, cond_false, Bool.true_and, Bool.and_true, Bool.not_not]
 generalize ((ot (jJ ps ⟨#[99]⟩).1 c.id c.counts.length).1.c == c.tx.c && ((ot (jJ ps ⟨#[99]⟩).1 c.id c.counts.length).1.e == c.tx.e && (ot (jJ ps ⟨#[99]⟩).1 c.id c.counts.length).1.n == c.tx.n)) = X
 cases (c.phase == 4) <;> cases (ot (jJ ps ⟨#[99]⟩).1 c.id c.counts.length).2.2 <;> cases X <;> rfl
theorem Uq (c : aQ) (hO : nS 1048576 c) (hB : ∀ x ∈ c.store.disk.sheets, aJ x.bytes) : ∃ r, ef c = some r /\ dZ c = some r := by
 have hO' := hO
 obtain ⟨⟨o1, _⟩, ⟨o2, _, _⟩, o3, o4, o5, o6, o7⟩ := hO
 have o3' : c.counts.length <= 1048576 := o3
 have o4' : c.stamps.length <= 1048576 := o4
 have o5' : c.pend.length <= 1048576 := o5
 have o7' : c.got.length <= 1048576 := o7.1
 have hm : ∀ m ∈ c.got, m.pairs.length <= 1048576 := fun m hm => (o7.2 m hm).2.1
 have hs := sG c.splits (by omega)
 have hi := uF c.splits (by omega)
 have ss := yI _ hB o2
 have si := yo _ hB o2
 by_cases c1 : 0 <= c.id /\ c.id <= 7
 case neg =>
  refine ⟨false, ?_, ?_⟩
  ·simp only [ef, eK, W.D]
   by_cases a : c.id < 0
   ·rw [decide_eq_true a]; rfl
   ·rw [decide_eq_false a, decide_eq_true (by omega : c.id > 7)]; rfl
  ·simp only [dZ, eH, W.D, aC, eJ]
   by_cases a : 0 <= c.id
   ·rw [decide_eq_true a, decide_eq_false (by omega : ¬ c.id <= 7)]; rfl
   ·rw [decide_eq_false a]; rfl
 have b1 := decide_eq_false (by omega : ¬ c.id < 0)
 have b2 := decide_eq_false (by omega : ¬ c.id > 7)
 have b3 := decide_eq_true c1.1
 have b4 := decide_eq_true c1.2
 by_cases c2 : Vm c.splits = true
 case neg =>
  simp only [Bool.not_eq_true] at c2
  refine ⟨false, ?_, ?_⟩
  ·simp only [ef, eK, W.D]
   rw [b1, b2, hs, c2]; rfl
  ·simp only [dZ, eH, W.D, aC, eJ]
   rw [b3, b4, hi, c2]; rfl
 by_cases c3 : Vp c.store = true
 case neg =>
  simp only [Bool.not_eq_true] at c3
  refine ⟨false, ?_, ?_⟩
  ·simp only [ef, eK, W.D]
   rw [b1, b2, hs, c2]
   simp only [Bool.not_true, cond_false, W.D]
   rw [ss, c3]; rfl
  ·simp only [dZ, eH, W.D, aC, eJ]
   rw [b3, b4, hi, c2]
   simp only [Bool.not_true, Bool.true_and, cond_false, W.D]
   rw [si, c3]; rfl
 obtain ⟨ps, h⟩ := Xq c3
 have hk4 : c.splits.length <= 3 := by
  unfold Vm at c2
  rw [Bool.and_eq_true] at c2
  exact Vo c2.1
 by_cases hE : EB c (epo ps)
 case neg =>
  refine ⟨false, ?_, ?_⟩
  ·simp only [ef, eK, W.D]
   rw [b1, b2, hs, c2]
   simp only [Bool.not_true, cond_false, W.D]
   rw [ss, c3]
   simp only [Bool.not_true, cond_false, W.D]
   by_cases d1 : c.epoch < 1
   ·rw [decide_eq_true d1]; rfl
   rw [decide_eq_false d1, rM h]
   simp only [cond_false, W.D]
   by_cases d2 : c.epoch = epo ps
   case neg => rw [show (c.epoch != epo ps) = true by rw [bne_iff_ne]; exact d2]; rfl
   rw [show (c.epoch != epo ps) = false by rw [bne_eq_false_iff_eq]; exact d2]
   by_cases d3 : c.num < 0
   ·rw [decide_eq_true d3]; rfl
   rw [decide_eq_false d3]
   by_cases d4 : c.num > 999
   ·rw [decide_eq_true d4]; rfl
   rw [decide_eq_false d4]
   simp only [cond_false, W.D]
   by_cases d5 : c.phase < 0
   ·rw [decide_eq_true d5]; rfl
   rw [decide_eq_false d5]
   by_cases d6 : c.phase > 4
   ·rw [decide_eq_true d6]; rfl
   exact absurd ⟨c1, ⟨by omega, d2⟩, ⟨by omega, by omega⟩, by omega, by omega⟩ hE
  ·simp only [dZ, eH, W.D, aC, eJ]
   rw [b3, b4, hi, c2]
   simp only [Bool.not_true, Bool.true_and, cond_false, W.D]
   rw [si, c3]
   simp only [Bool.not_true, cond_false, W.D]
   by_cases d1 : c.epoch < 1
   ·rw [decide_eq_true d1]; rfl
   rw [decide_eq_false d1, rn h]
   simp only [cond_false, W.D]
   by_cases d2 : c.epoch = epo ps
   case neg => rw [show (c.epoch != epo ps) = true by rw [bne_iff_ne]; exact d2]; rfl
   rw [show (c.epoch != epo ps) = false by rw [bne_eq_false_iff_eq]; exact d2]
   by_cases d3 : 0 <= c.num
   case neg => rw [decide_eq_false d3]; rfl
   rw [decide_eq_true d3]
   by_cases d4 : c.num <= 999
   case neg => rw [decide_eq_false d4]; rfl
   rw [decide_eq_true d4]
   by_cases d5 : 0 <= c.phase
   case neg => rw [decide_eq_false d5]; rfl
   rw [decide_eq_true d5]
   by_cases d6 : c.phase <= 4
   case neg => rw [decide_eq_false d6]; rfl
   exact absurd ⟨c1, ⟨by omega, d2⟩, ⟨d3, d4⟩, d5, d6⟩ hE
 by_cases hl : c.counts.length = c.splits.length + 1
 case neg =>
  obtain ⟨_, ⟨e3, e4⟩, ⟨e5, e6⟩, e7, e8⟩ := hE
  refine ⟨false, ?_, ?_⟩
  ·simp only [ef, eK, W.D]
   rw [b1, b2, hs, c2]
   simp only [Bool.not_true, cond_false, W.D]
   rw [ss, c3]
   simp only [Bool.not_true, cond_false, W.D]
   rw [decide_eq_false (by omega : ¬ c.epoch < 1), rM h]
   simp only [cond_false, W.D]
   rw [show (c.epoch != epo ps) = false by rw [bne_eq_false_iff_eq]; exact e4, decide_eq_false (by omega : ¬ c.num < 0), decide_eq_false (by omega : ¬ c.num > 999)]
   simp only [cond_false, W.D]
   rw [decide_eq_false (by omega : ¬ c.phase < 0), decide_eq_false (by omega : ¬ c.phase > 4), an _ (by omega) (by omega), show ((c.counts.length : Int) != (c.splits.length : Int) + 1) = true by rw [bne_iff_ne]; omega]
   rfl
  ·simp only [dZ, eH, W.D, aC, eJ]
   rw [b3, b4, hi, c2]
   simp only [Bool.not_true, Bool.true_and, cond_false, W.D]
   rw [si, c3]
   simp only [Bool.not_true, cond_false, W.D]
   rw [decide_eq_false (by omega : ¬ c.epoch < 1), rn h]
   simp only [cond_false, W.D]
   rw [show (c.epoch != epo ps) = false by rw [bne_eq_false_iff_eq]; exact e4, decide_eq_true e5, decide_eq_true e6, decide_eq_true e7, decide_eq_true e8]
   simp only [Bool.not_true, Bool.true_and, cond_false, W.D]
   rw [sZ c o3' o5' (by omega) o4', decide_eq_false hl]
   rfl
 by_cases hls : c.stamps.length = c.counts.length
 case neg =>
  obtain ⟨_, ⟨e3, e4⟩, ⟨e5, e6⟩, e7, e8⟩ := hE
  refine ⟨false, ?_, ?_⟩
  ·simp only [ef, eK, W.D]
   rw [b1, b2, hs, c2]
   simp only [Bool.not_true, cond_false, W.D]
   rw [ss, c3]
   simp only [Bool.not_true, cond_false, W.D]
   rw [decide_eq_false (by omega : ¬ c.epoch < 1), rM h]
   simp only [cond_false, W.D]
   rw [show (c.epoch != epo ps) = false by rw [bne_eq_false_iff_eq]; exact e4, decide_eq_false (by omega : ¬ c.num < 0), decide_eq_false (by omega : ¬ c.num > 999)]
   simp only [cond_false, W.D]
   rw [decide_eq_false (by omega : ¬ c.phase < 0), decide_eq_false (by omega : ¬ c.phase > 4), an _ (by omega) (by omega), show ((c.counts.length : Int) != (c.splits.length : Int) + 1) = false by rw [bne_eq_false_iff_eq]; omega]
   simp only [cond_false, W.D]
   rw [vv c o3', cq, show ((c.stamps.length : Int) != (c.counts.length : Int)) = true by rw [bne_iff_ne]; omega]
   cases (c.counts.all fun n => wiB n && !((c.phase == 0) && (n != 0))) <;> rfl
  ·simp only [dZ, eH, W.D, aC, eJ]
   rw [b3, b4, hi, c2]
   simp only [Bool.not_true, Bool.true_and, cond_false, W.D]
   rw [si, c3]
   simp only [Bool.not_true, cond_false, W.D]
   rw [decide_eq_false (by omega : ¬ c.epoch < 1), rn h]
   simp only [cond_false, W.D]
   rw [show (c.epoch != epo ps) = false by rw [bne_eq_false_iff_eq]; exact e4, decide_eq_true e5, decide_eq_true e6, decide_eq_true e7, decide_eq_true e8]
   simp only [Bool.not_true, Bool.true_and, cond_false, W.D]
   rw [sZ c o3' o5' (by omega) o4', decide_eq_true hl, decide_eq_false hls]
   rfl
 exact ⟨SV c ps, Kj c ps hO' hB hm h hE c2 c3 hl hls (by omega), II c ps hO' hB hm h hE c2 c3 hl hls (by omega)⟩
theorem Zp (c : aQ) (h : nS 140737488355328 c) (hB : ∀ x ∈ c.store.disk.sheets, aJ x.bytes) : jE c = some true := by
 obtain ⟨v, hv, h1, h2⟩ := RL c 1048576 (by decide) (by decide) h
 simp only [jE, iL, W.D]
 rw [hv]
 simp only [W.D]
 by_cases hn : v < 0
 ·rw [decide_eq_true hn]; rfl
 ·have ho := h2 (by omega)
  obtain ⟨r, e1, e2⟩ := Uq c ho hB
  rw [decide_eq_false hn, QG c ho]
  simp only [cond_false, W.D]
  rw [e1, e2]
  simp only [W.D]
  rw [show (r == r) = true by cases r <;> rfl, Il c ho]
  rfl
theorem sl {α : Type} {xs : List α} {a : Nat} {ok : α -> Prop} (k : xs.length * a <= 140737488351232 /\ ∀ x ∈ xs, ok x) (ha : 1 <= a) : xs.length <= 140737488355328 /\ ∀ x ∈ xs, ok x := by
 have := Nat.le_mul_of_pos_right xs.length ha
 exact ⟨by omega, k.2⟩
theorem leR {n : Nat} (h : n <= 140737488351232) : n <= 140737488355328 := by omega
theorem strs {xs : List ByteArray} {a : Nat} (k : xs.length * a <= 140737488351232 /\ ∀ x ∈ xs, (fun s : ByteArray => s.size <= 140737488351232) x) (ha : 1 <= a) : kC 140737488355328 xs :=
 ⟨(sl k ha).1, fun x hx => leR (k.2 x hx)⟩
theorem wf_u8 {n : Int} (h : (Lit.int .u8 n).wf = true) : 0 <= n /\ n < 256 := by
 simp [Lit.wf, IntKind.min, IntKind.max, IntKind.signed, IntKind.bits] at h
 omega
def VC (x : bb) : Prop := kB 140737488355328 x /\ aJ x.bytes
def YY (x : bp) : Prop := pd 140737488355328 x /\ ∀ s ∈ x.sheets, aJ s.bytes
def XN (x : cj) : Prop := wj 140737488355328 x /\ ∀ s ∈ x.disk.sheets, aJ s.bytes
def VB (x : aQ) : Prop := nS 140737488355328 x /\ ∀ s ∈ x.store.disk.sheets, aJ s.bytes
theorem Qn (c : aQ) (h : VB c) : ab Tryz.prog 3 [.agg [.c (iC c.id), .c (lC 1 aq c.splits), .c (lC 1 aj c.store.disk.sheets), .c (lC 2 ao c.store.disk.dirty), .c (iC c.store.gen), .c (lC 3 aa c.store.tree.nodes), .c (lC 1 ah c.store.places), .c (iC c.epoch), .c (iC c.num), .c (iC c.phase), .c (iC c.tx.c), .c (iC c.tx.e), .c (iC c.tx.n), .c (lC 1 ah c.counts), .c (lC 1 ah c.stamps), .c (lC 1 ah c.pend), .c (iC c.ask.kind), .c (sC c.ask.key), .c (sC c.ask.val), .c (sC c.ask.range.lo), .c (sC c.ask.range.hi), .c (iC c.ask.most), .c (bC c.ask.back), .c (lC 17 cC c.got), .c (iC c.age)]] (bV true) [] := uS c true (Zp c h.1 h.2)
end
end Go.Proofs.YtgenimghpoemmaaGreatDoor
