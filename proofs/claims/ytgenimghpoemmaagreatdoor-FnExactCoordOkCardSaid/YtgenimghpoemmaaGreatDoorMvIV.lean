/- Calls that are lent or given what the caller owns, function values, loops and joins along a term that may fail; whatever the program and the state. -/
import Derived.Test.YtgenimghpoemmaaGreatDoorMvIII
set_option linter.unusedVariables false
set_option linter.unusedSimpArgs false
namespace Go.Mv
open Go.RowKit
def yR (m : Rows) (γ : Path -> Option Loc) (b : Nat) : Prop := ∃ q rows l, q ≠ [] /\ ay m q = some rows /\ γ q = some l /\ l.b = b
mutual
inductive QV : C -> C -> Prop
 | same {c : C} : QV c c
 | fz {c c' : C} : QV c c' -> QV (.fz c) c'
 | bx {r r' : List C} : zW r r' -> QV (.bx r) (.bx r')
 | sl {sz : Nat} {rs rs' : Rows} : sM rs rs' -> QV (.sl sz rs) (.sl sz rs')
inductive zW : List C -> List C -> Prop
 | nil : zW [] []
 | cons {c c' : C} {r r' : List C} : QV c c' -> zW r r' -> zW (c :: r) (c' :: r')
inductive sM : Rows -> Rows -> Prop
 | nil : sM [] []
 | cons {r r' : List C} {rs rs' : Rows} : zW r r' -> sM rs rs' -> sM (r :: rs) (r' :: rs')
end
theorem zW.length : ∀ {r r' : List C}, zW r r' -> r.length = r'.length
 | _, _, .nil => rfl
 | _, _, .cons _ h => by simp [zW.length h]
theorem sM.length : ∀ {r r' : Rows}, sM r r' -> r.length = r'.length
 | _, _, .nil => rfl
 | _, _, .cons _ h => by simp [sM.length h]
theorem sM.rows {sz : Nat} : ∀ {r r' : Rows}, sM r r' -> (∀ row ∈ r, row.length = sz) -> ∀ row ∈ r', row.length = sz
 | _, _, .nil, h => h
 | _, _, .cons h1 h2, h => fun row hr => by
  rcases List.mem_cons.1 hr with rfl | hr
  ·rw [<- h1.length]; exact h _ (by simp)
  ·exact sM.rows h2 (fun z hz => h z (by simp [hz])) row hr
theorem bG.split {w : World} {S : Nat -> Prop} : ∀ {cs ds : List C} {xs : List Value}, bG w S (cs ++ ds) xs -> ∃ x1 x2, xs = x1 ++ x2 /\ bG w S cs x1 /\ bG w S ds x2
 | [], ds, xs, h => ⟨[], xs, rfl, .nil, h⟩
 | c :: cs, ds, _, .cons h t => by
  obtain ⟨x1, x2, rfl, h1, h2⟩ := bG.split t
  exact ⟨_ :: x1, x2, rfl, .cons h h1, h2⟩
mutual
theorem QV.rep {w : World} {S : Nat -> Prop} : ∀ {c c' : C} {x : Value}, QV c c' -> gd w S c x -> gd w S c' x
 | _, _, _, .same, h => h
 | _, _, _, .fz u, .fz h => u.rep h
 | _, _, _, .bx u, .bx hb hs hc => .bx hb (u.rep hs) hc
 | _, _, _, .sl .nil, h => h
 | _, _, _, .sl (.cons u v), .sl hb hr hs hc hl => by
  have hn := (sM.cons u v).length
  rw [hn] at hl ⊢
  exact .sl hb ((sM.cons u v).rows hr) ((sM.cons u v).rep hs) hc hl
theorem zW.rep {w : World} {S : Nat -> Prop} : ∀ {c c' : List C} {x : List Value}, zW c c' -> bG w S c x -> bG w S c' x
 | _, _, _, .nil, h => h
 | _, _, _, .cons u v, .cons h t => .cons (u.rep h) (v.rep t)
theorem sM.rep {w : World} {S : Nat -> Prop} : ∀ {c c' : Rows} {x : List Value}, sM c c' -> bG w S c.flatten x -> bG w S c'.flatten x
 | _, _, _, .nil, h => h
 | _, _, _, .cons u v, h => by
  rw [List.flatten_cons] at h ⊢
  obtain ⟨x1, x2, rfl, h1, h2⟩ := bG.split h
  exact (u.rep h1).append (v.rep h2)
end
inductive wg (m : Rows) : T1 -> T1 -> Prop
 | nilv {sz : Nat} : wg m (.c (.v (.slice none 0 0))) (.c (.sl sz []))
 | imp {t : T1} {c c' : C} : wg m t (.c c) -> QV c c' -> wg m t (.c c')
 | same {t : T1} : sR t = true -> wg m t t
 | so {q : Path} {i f n sz : Nat} {rs rows : Rows} : ay m q = some rs -> at2 rs i f = some (.sl sz rows) -> rows.length = n -> wg m (.so q i f n) (.c (.sl sz rows))
 | bx {q : Path} {i f : Nat} {rs : Rows} {row : List C} : ay m q = some rs -> at2 rs i f = some (.bx row) -> wg m (.pl (q ++ [(i, f)]) 0 0) (.c (.bx row))
inductive HT (m : Rows) : List T1 -> List T1 -> Prop
 | nil : HT m [] []
 | cons {t t' : T1} {l l' : List T1} : wg m t t' -> HT m l l' -> HT m (t :: l) (t' :: l')
inductive OV (m : Rows) : TV -> TV -> Prop
 | one {t t' : T1} : wg m t t' -> OV m (.one t) (.one t')
 | agg {l l' : List T1} : HT m l l' -> OV m (.agg l) (.agg l')
inductive sw (m : Rows) : List TV -> List TV -> Prop
 | nil : sw m [] []
 | cons {t t' : TV} {l l' : List TV} : OV m t t' -> sw m l l' -> sw m (t :: l) (t' :: l')
section
variable {P : Program} {Ty : Types} {B : da} {S : Nat -> Prop} {γ : Path -> Option Loc} {st : St} {a : Act} {w : World} {Q : AQ} {ops : Array Oper}
theorem wg.val (hR : Rel B S γ st a w) {t t' : T1} (h : wg st.m t t') {x : Value} (hx : au w S γ t x) : au w (fun b => S b \/ yR st.m γ b) (fun _ => none) t' x := by
 have hSS : ∀ b, S b -> S b \/ yR st.m γ b := fun b hb => .inl hb
 induction h with
 | nilv =>
  have hr : gd w S (.v (.slice none 0 0)) x := hx
  cases hr
  exact gd.nil
 | imp _ hu ih => exact hu.rep (ih hx)
 | same hc => exact oo hc (au.frame hSS (fun _ _ => rfl) hx)
 | @so q i f n sz rs rows hq hc hn =>
  obtain ⟨v, hv⟩ := hR.mem.mC hq hc
  have hdet := hR.mem.det hq hc hv
  have hrep : gd w (fun b => S b \/ yR st.m γ b) (.sl sz rows) v := Det.rep hSS _ _ v hdet fun s rs l hg hl => .inr ⟨q ++ (i, f) :: s, rs, l, by simp, by rw [ca hq hc]; exact hg, hl, rfl⟩
  have hxv : x = v := by
   rcases hx with ⟨l, hl, hx, _⟩ | ⟨hl, h0, hx⟩
   ·rw [hl] at hv; rw [hx, hv.1, hn]
   ·rw [hl] at hv; rw [hx, hv.2]
  rw [hxv]
  exact hrep
 | @bx q i f rs row hq hc =>
  obtain ⟨v, hv⟩ := hR.mem.mC hq hc
  have hdet := hR.mem.det hq hc hv
  have hrep : gd w (fun b => S b \/ yR st.m γ b) (.bx row) v := Det.rep hSS _ _ v hdet fun s rs l hg hl => .inr ⟨q ++ (i, f) :: s, rs, l, by simp, by rw [ca hq hc]; exact hg, hl, rfl⟩
  obtain ⟨l, hl, hx⟩ := hx
  have hxv : x = v := by
   rw [hl] at hv
   rw [hx, show v = .pointer (some ⟨l.b, l.off, none⟩) from hv]
   simp
  rw [hxv]
  exact hrep
theorem HT.val (hR : Rel B S γ st a w) : ∀ {l l' : List T1} {xs : List Value}, HT st.m l l' -> cK (au w S γ) l xs -> cK (au w (fun b => S b \/ yR st.m γ b) (fun _ => none)) l' xs
 | _, _, xs, .nil, h => by
  have : xs = [] := List.eq_nil_of_length_eq_zero (by rw [<- h.1]; rfl)
  subst this
  exact .nil
 | _, _, xs, .cons h1 h2, h => by
  obtain ⟨x, xs', rfl, g1, g2⟩ := h.dQ
  exact .cons (h1.val hR g1) (HT.val hR h2 g2)
theorem OV.val (hR : Rel B S γ st a w) {t t' : TV} (h : OV st.m t t') {x : Value} (hx : aD w S γ t x) : aD w (fun b => S b \/ yR st.m γ b) (fun _ => none) t' x := by
 cases h with
 | one h => exact h.val hR hx
 | agg h =>
  obtain ⟨xs, rfl, hl⟩ := hx
  exact ⟨xs, rfl, h.val hR hl⟩
theorem sw.val (hR : Rel B S γ st a w) : ∀ {l l' : List TV} {xs : List Value}, sw st.m l l' -> cK (aD w S γ) l xs -> cK (aD w (fun b => S b \/ yR st.m γ b) (fun _ => none)) l' xs
 | _, _, xs, .nil, h => by
  have : xs = [] := List.eq_nil_of_length_eq_zero (by rw [<- h.1]; rfl)
  subst this
  exact .nil
 | _, _, xs, .cons h1 h2, h => by
  obtain ⟨x, xs', rfl, g1, g2⟩ := h.dQ
  exact .cons (h1.val hR g1) (sw.val hR h2 g2)
theorem Yy (hR : Rel B S γ st a w) (b : Nat) (h : S b \/ yR st.m γ b) : b < w.heap.size := by
 rcases h with h | ⟨q, rows, l, hq, hr, hl, rfl⟩
 ·exact hR.lt b h
 ·have := hR.mem.loc q rows hq hr
  rw [hl] at this
  obtain ⟨_, _, _, cells, e, lo, hi, h4, _⟩ := this
  exact bT h4
inductive Clean : C -> Prop
 | v {u : Value} : Clean (.v u)
 | dead : Clean .dead
 | sl {sz : Nat} {rows : Rows} : (∀ r ∈ rows, ∀ c ∈ r, Clean c) -> Clean (.sl sz rows)
 | bx {row : List C} : (∀ c ∈ row, Clean c) -> Clean (.bx row)
def cz (rows : Rows) : Prop := ∀ r ∈ rows, ∀ c ∈ r, Clean c
theorem cz.at2 {rows : Rows} (h : cz rows) {i f : Nat} {c : C} (hc : at2 rows i f = some c) : Clean c := by
 unfold Mv.at2 at hc
 cases hz : rows[i]? with
 | none => rw [hz] at hc; cases hc
 | some z => rw [hz] at hc; exact h z (List.mem_of_getElem? hz) c (List.mem_of_getElem? hc)
theorem Clean.rows {c : C} (h : Clean c) {r : Rows} (hr : c.rows = some r) : cz r := by
 cases h with
 | v => simp [C.rows] at hr
 | dead => simp [C.rows] at hr
 | sl h => simp only [C.rows, Option.some.injEq] at hr; subst hr; exact h
 | bx h => simp only [C.rows, Option.some.injEq] at hr; subst hr; intro r hr c hc; simp only [List.mem_singleton] at hr; subst hr; exact h c hc
theorem cz.ay {m : Rows} (h : cz m) : ∀ {q : Path} {rows : Rows}, ay m q = some rows -> cz rows := by
 intro q
 induction q generalizing m with
 | nil => intro rows hr; simp only [Mv.ay, Option.some.injEq] at hr; subst hr; exact h
 | cons x s ih =>
  obtain ⟨i, f⟩ := x
  intro rows hr
  simp only [Mv.ay] at hr
  cases h0 : Mv.at2 m i f with
  | none => rw [h0] at hr; cases hr
  | some c0 =>
   rw [h0] at hr
   simp only [Option.bind_some] at hr
   cases h1 : c0.rows with
   | none => rw [h1] at hr; cases hr
   | some r => rw [h1] at hr; exact ih ((h.at2 h0).rows h1) hr
theorem Clean.hdr {w : World} {S S' : Nat -> Prop} {c : C} (h : Clean c) {l : Option Loc} {x : Value} (hx : Hdr w S c l x) : Hdr w S' c l x := by
 cases h with
 | v => exact hx
 | dead => exact hx
 | sl h => cases l <;> exact hx
 | bx h => cases l <;> exact hx
theorem bf.clean {w : World} {S S' : Nat -> Prop} {γ : Path -> Option Loc} {m : Rows} (h : bf w S m γ) (hcl : cz m) (hS : ∀ b, S' b -> S b) : bf w S' m γ := by
 refine ⟨fun q rows hq hr => ?_, fun q rows l i f c hq hr hl hc => ?_, fun i f c hc => ?_, h.inj⟩
 ·have := h.loc q rows hq hr
  cases hl : γ q with
  | none => rw [hl] at this; exact this
  | some l => rw [hl] at this; exact ⟨fun hb => this.1 (hS _ hb), this.2⟩
 ·obtain ⟨x, h1, h2⟩ := h.cell q rows l i f c hq hr hl hc
  exact ⟨x, h1, ((hcl.ay hr).at2 hc).hdr h2⟩
 ·obtain ⟨x, hx⟩ := h.head i f c hc
  exact ⟨x, (hcl.at2 hc).hdr hx⟩
def wy : T1 -> Bool
 | .unk => true
 | .c (.v _) => true
 | .pl _ _ _ => true
 | .so _ _ _ _ => true
 | .sp _ _ _ => true
 | _ => false
def Ww : T2 -> Bool
 | .one t => wy t
 | .agg l => l.all wy
def Ah : TV -> Bool
 | .one t => wy t
 | .agg l => l.all wy
 | .tup l => l.all Ww
theorem sQ {S' : Nat -> Prop} {t : T1} {x : Value} (h : wy t = true) (hx : au w S γ t x) : au w S' γ t x := by
 cases t with
 | c c =>
  cases c with
  | v u =>
   have hr : gd w S (.v u) x := hx
   cases hr with
   | v hp => exact gd.v hp
  | _ => cases h
 | fp row f => cases h
 | _ => exact hx
theorem DF {S' : Nat -> Prop} {l : List T1} {xs : List Value} (h : l.all wy = true) (hx : cK (au w S γ) l xs) : cK (au w S' γ) l xs :=
 hx.imp fun t x ht hv => sQ (List.all_eq_true.1 h t ht) hv
theorem Pf {S' : Nat -> Prop} {t : TV} {x : Value} (h : Ah t = true) (hx : aD w S γ t x) : aD w S' γ t x := by
 cases t with
 | one t => exact sQ h hx
 | agg l => obtain ⟨xs, rfl, hl⟩ := hx; exact ⟨xs, rfl, DF h hl⟩
 | tup l =>
  obtain ⟨xs, rfl, hl⟩ := hx
  refine ⟨xs, rfl, hl.imp fun t x ht hv => ?_⟩
  have := List.all_eq_true.1 h t ht
  cases t with
  | one t => exact sQ this hv
  | agg l => obtain ⟨ys, rfl, hl2⟩ := hv; exact ⟨ys, rfl, DF this hl2⟩
theorem Ret.clean {S' : Nat -> Prop} {w' : World} {res : TV} {row : List C} {v : Value} (h : Ret w S' w' res row v) (hc : Ah res = true) (hr : cz [row]) (hS : ∀ b, S b -> S' b) (hlt : ∀ b, S b -> b < w.heap.size) : Ret w S w' res row v := by
 obtain ⟨hb, S2, γr, h1, h2, h3, h4, h5, h6⟩ := h
 exact ⟨hb, S, γr, fun _ h => h, fun _ h => .inl h, fun b hs => Nat.lt_of_lt_of_le (hlt b hs) hb.size, h4.clean hr fun b hs => h1 b (hS b hs), Pf hc h5, h6⟩
theorem Oa (hR : Rel B S γ st a w) {f : FuncId} {A A' : List TV} {vals : List Value} {res : TV} {row : List C} (hC : ab P f A' res row) (hL : sw st.m A A') (hv : cK (aD w S γ) A vals) (hc : Ah res = true) (hr : cz [row]) :
  Calls P f vals.toArray w fun e w' => ∃ v, e = .returned v /\ Ret w S w' res row v :=
 (hC w _ vals (Yy hR) (hL.val hR hv)).mono fun e w' ⟨v, he, h⟩ => ⟨v, he, h.clean hc hr (fun _ hb => .inl hb) hR.lt⟩
end
end Go.Mv
namespace Go.Mv
open Go.RowKit
def kJ (w : World) (S : Nat -> Prop) (ins : Rows) (γ : Path -> Option Loc) : da := ⟨w, S, fun b _ => yR ins γ b, ins.length, γ⟩
def sT (ins : Rows) (args : List TV) (n : Nat) : St := { t := yi args n, m := ins ++ List.replicate (args.length + (n - args.length) - ins.length) [.dead] }
theorem pH {ins : Rows} {k i f : Nat} {c : C} (h : at2 (ins ++ List.replicate k [C.dead]) i f = some c) : at2 ins i f = some c \/ c = .dead := by
 unfold at2 at h ⊢
 by_cases hi : i < ins.length
 ·rw [List.getElem?_append_left hi] at h; exact .inl h
 ·rw [List.getElem?_append_right (by omega), List.getElem?_replicate] at h
  split at h
  ·simp only [Option.bind_some] at h
   have := List.mem_of_getElem? h
   exact .inr (by simpa using this)
  ·cases h
theorem cR {ins : Rows} {k : Nat} {q : Path} {rows : Rows} (hq : q ≠ []) (h : ay (ins ++ List.replicate k [C.dead]) q = some rows) : ay ins q = some rows := by
 cases q with
 | nil => exact absurd rfl hq
 | cons x s =>
  obtain ⟨i, f⟩ := x
  simp only [ay] at h ⊢
  cases hc : at2 (ins ++ List.replicate k [C.dead]) i f with
  | none => rw [hc] at h; cases h
  | some c =>
   rw [hc] at h
   rcases pH hc with h1 | rfl
   ·rw [h1]; exact h
   ·simp [C.rows] at h
section
variable {P : Program} {Ty : Types} {B : da} {S : Nat -> Prop} {γ : Path -> Option Loc} {st : St} {a : Act} {w : World}
theorem Le {ins : Rows} {args : List TV} {vals : List Value} {n : Nat} (hS : ∀ b, S b -> b < w.heap.size) (hm : bf w S ins γ) (h : cK (aD w S γ) args vals) (hl : ins.length <= args.length) :
  lz (kJ w S ins γ) (sT ins args n) { tmps := vals.toArray ++ Array.replicate (n - vals.toArray.size) undef, defers := [] } w := by
 refine ⟨S, γ, ⟨fun _ hb => hb, hS, ⟨fun q rows hq hr => hm.loc q rows hq (cR hq hr), fun q rows l i f c hq hr => hm.cell q rows l i f c hq (cR hq hr), fun i f c hc => ?_,
   fun q q' rows rows' l l' hq hq' hr hr' => hm.inj q q' rows rows' l l' hq hq' (cR hq hr) (cR hq' hr')⟩,
  fun k t hk => ?_, ?_, ?_, rfl, fun q rows l hq hr hl => .inr ⟨⟨0, q, rows, l, hq, cR hq hr, hl, rfl⟩, fun o _ _ => ⟨q, rows, l, hq, cR hq hr, hl, rfl⟩⟩, fun i f c _ _ _ => rfl, Frame.refl _⟩, fun b hb => .inl hb⟩
 ·rcases pH hc with h1 | rfl
  ·exact hm.head i f c h1
  ·exact ⟨.bool true, rfl⟩
 ·simp only [sT, yi] at hk
  simp only [Array.getD_eq_getD_getElem?, Array.getElem?_append, List.size_toArray, List.getElem?_toArray]
  by_cases hlt : k < args.length
  ·rw [List.getElem?_append_left hlt] at hk
   obtain ⟨b, h1, h2⟩ := h.get hk
   rw [if_pos (by rw [<- h.1]; exact hlt), h1]
   exact h2
  ·rw [List.getElem?_append_right (by omega), List.getElem?_replicate] at hk
   split at hk
   ·cases hk; trivial
   ·cases hk
 ·simp [sT, yi, h.1]
 ·simp [sT, yi]; omega
end
end Go.Mv
namespace Go.Mv
open Go.RowKit
def mW : C -> Bool
 | .dead => true
 | _ => false
inductive zR : List C -> List C -> Prop
 | nil {cs : List C} : zR cs []
 | dead {c : C} {cs xs : List C} : zR cs xs -> zR (c :: cs) (.dead :: xs)
 | sl {sz sz' : Nat} {r r' : Rows} {cs xs : List C} : r'.length = r.length -> zR cs xs -> zR (.sl sz r :: cs) (.sl sz' r' :: xs)
 | bx {r r' : List C} {cs xs : List C} : zR cs xs -> zR (.bx r :: cs) (.bx r' :: xs)
def OH : C -> C -> Prop
 | .sl _ r, .sl _ r' => r'.length = r.length
 | .bx _, .bx _ => True
 | _, _ => False
theorem zR.get : ∀ {cs xs : List C}, zR cs xs -> ∀ {k : Nat} {x : C}, xs[k]? = some x -> mW x = false -> ∃ c, cs[k]? = some c /\ OH c x
 | _, _, .nil, k, x, h, _ => by simp at h
 | _, _, .dead h, 0, x, hx, hd => by simp at hx; subst hx; cases hd
 | _, _, .dead h, k + 1, x, hx, hd => by simpa using h.get (by simpa using hx) hd
 | _, _, .sl hl h, 0, x, hx, hd => by simp at hx; subst hx; exact ⟨_, rfl, hl⟩
 | _, _, .sl hl h, k + 1, x, hx, hd => by simpa using h.get (by simpa using hx) hd
 | _, _, .bx h, 0, x, hx, hd => by simp at hx; subst hx; exact ⟨_, rfl, trivial⟩
 | _, _, .bx h, k + 1, x, hx, hd => by simpa using h.get (by simpa using hx) hd
section
variable {P : Program} {Ty : Types} {B : da} {S : Nat -> Prop} {γ : Path -> Option Loc} {st : St} {a : Act} {w : World} {Q : AQ} {ops : Array Oper} {q : Path} {i f : Nat}
theorem LD {c : C} (h : mW c = true) : c.rows = none := by cases c <;> first | rfl | cases h
theorem wv {cs : List C} {i0 k : Nat} {c : C} (h : at2 [cs] i0 k = some c) : i0 = 0 /\ cs[k]? = some c := by
 unfold at2 at h
 cases i0 with
 | zero => exact ⟨rfl, by simpa using h⟩
 | succ i0 => simp at h
theorem Rel.WJ {w' : World} {ins : Rows} {γi : Path -> Option Loc} (hR : Rel B S γ st a w) (hf : Frame (kJ w S ins γi) w') (hS : ∀ b, S b -> ¬ yR ins γi b) (hd : ∀ p rs l, p ≠ [] -> ay st.m p = some rs -> γ p = some l -> ¬ yR ins γi l.b)
  (hB : ∀ b, yR ins γi b -> B.w.heap.size <= b \/ ∀ o, B.F b o) : Rel B S γ st a w' := by
 have hall : ∀ b, b < w.heap.size -> ¬ yR ins γi b -> w'.heap[b]? = w.heap[b]? := fun b hb hn => hf.all b hb fun o ho => hn ho
 have hSw : ∀ b, S b -> w'.heap[b]? = w.heap[b]? := fun b hb => hall b (hR.lt b hb) (hS b hb)
 refine ⟨hR.sS, fun b hb => Nat.lt_of_lt_of_le (hR.lt b hb) hf.size, hR.mem.frame (fun _ hb => hb) hSw fun p rs l hp hr hl => ?_, fun k t hk => aD.imp (fun _ _ ht => au.frame (fun _ hb => hb) hSw ht) (hR.tv k t hk), hR.size, hR.msize, hR.defers, hR.own, hR.fix, ?_⟩
 ·have := hR.mem.loc p rs hp hr
  rw [hl] at this
  obtain ⟨h1, _, _, cells, e, lo, hi, h4, _⟩ := this
  exact ⟨hall _ (bT h4) (hd p rs l hp hr hl), h1⟩
 ·have hsz : B.w.heap.size <= w.heap.size := hR.fr.size
  refine ⟨hf.os.trans hR.fr.os, hf.tape.trans hR.fr.tape, hf.output.trans hR.fr.output, Nat.le_trans hsz hf.size, fun b hb hF => ?_, fun b cells e z hh => ?_⟩
  ·have hn : ¬ yR ins γi b := fun ho => by
    rcases hB b ho with h1 | h1
    ·omega
    ·exact hF 0 (h1 0)
   rw [hall b (by omega) hn]
   exact hR.fr.all b hb hF
  ·obtain ⟨c1, h1, h2, h3⟩ := hR.fr.cells b cells e z hh
   obtain ⟨c2, g1, g2, g3⟩ := hf.cells b c1 e z h1
   refine ⟨c2, g1, g2.trans h2, fun o ho => ?_⟩
   have hn : ¬ yR ins γi b := fun hob => by
    rcases hB b hob with k1 | k1
    ·have := bT hh; omega
    ·exact ho (k1 o)
   rw [g3 o hn, h3 o ho]
theorem tt {c x : C} (h : OH c x) : c.rows ≠ none /\ x.rows ≠ none /\ mW c = false := by
 cases c <;> cases x <;> first | exact h.elim | exact ⟨by simp [C.rows], by simp [C.rows], rfl⟩
theorem Vx (w : World) (S : Nat -> Prop) (ins : Rows) (γ : Path -> Option Loc) : ∀ b o o', (kJ w S ins γ).F b o -> (kJ w S ins γ).F b o' := fun _ _ _ h => h
end
end Go.Mv
namespace Go.Mv
open Go.RowKit
section
variable {P : Program} {Ty : Types} {B : da} {S : Nat -> Prop} {γ : Path -> Option Loc} {st : St} {a : Act} {w : World} {Q : AQ} {ops : Array Oper}
def cv (Ty : Types) (ops : Array Oper) (st : St) (i : Nat) : Option (Path × Nat × Nat × Rows × List Nat × List T1) :=
 match ops[i]? with
 | none => none
 | some o => match dm ops st o, o.dst, o.op with
  | some true, none, .store t p x => match Ty t with
   | none => none
   | some ti => match evT st p, jH (evT st x) with
    | .one (.pl q n f), some l => match ay st.m q with
     | some rows => if q.isEmpty = false /\ l.length = ti.size then some (q, n, f, rows, ti.szs, l) else none
     | none => none
    | _, _ => none
  | _, _, _ => none
theorem KA {np : Nat} {i n f : Nat} {q : Path} {rows rows' : Rows} {szs : List Nat} {ts : List T1} {t1 : List TV} (row : List C) (h : cv Ty ops st i = some (q, n, f, rows, szs, ts))
  (hr : rows[n]? = some row) (hl : f + ts.length <= row.length) (hf : yK q n szs f (row.drop f) ts st.t = some t1) (hrows : rows.set n (row.take f ++ bt szs ts ++ row.drop (f + ts.length)) = rows') :
  ∃ o, ops[i]? = some o /\ dm ops st o = some true /\ step Ty np st o = some { t := t1, m := bh st.m q rows' } := by
 unfold cv at h
 split at h
 ·cases h
 rename_i o ho
 split at h
 ·rename_i t p x hw hd hop
  split at h
  ·cases h
  rename_i ti hti
  split at h
  ·rename_i q' n' f' l' hp hx
   split at h
   ·rename_i rows2 hg
    split at h
    ·rename_i hc
     cases h
     have hall := xb hf
     have hL := EH (st := st) (szs := ti.szs) (f := f) (row := row) (ds := []) hf rfl hg hr hl
     rw [hrows, List.nil_append] at hL
     refine ⟨o, ho, hw, ?_⟩
     unfold step
     rw [hop]
     simp only [Kz, hti, hp, hx]
     rw [if_pos hc, hL]
     simp only [od hall, Option.map_some, hd, St.put]
    ·cases h
   ·cases h
  ·cases h
 ·cases h
end
end Go.Mv
namespace Go.Mv
open Go.RowKit
abbrev Obs := List (Nat × Nat)
def nR : Obs -> Prop
 | [] => True
 | (a, b) :: l => a = b /\ nR l
theorem nR.append {a b : Obs} (h : nR (a ++ b)) : nR a /\ nR b := by
 induction a with
 | nil => exact ⟨trivial, h⟩
 | cons x a ih => exact ⟨⟨h.1, (ih h.2).1⟩, (ih h.2).2⟩
def WI : C -> Option Nat -> Option Obs
 | .sl _ rs, some n => some [(rs.length, n)]
 | .bx _, none => some []
 | _, _ => none
theorem Uw {c : C} {n : Option Nat} {o : Obs} (h : WI c n = some o) (ho : nR o) : fits c n = true := by
 cases c <;> cases n <;> simp only [WI, fits] at h ⊢ <;> first | contradiction | rfl | skip
 cases h
 exact beq_iff_eq.2 ho.1
def KR (m : Rows) (p : Path) (i f : Nat) (t : T1) : Option (Rows × Path × Obs) :=
 match oR t with
 | none => none
 | some (q1, i1, f1, n) => match ay m q1 with
  | none => none
  | some rows1 => match at2 rows1 i1 f1 with
   | none => none
   | some x => match WI x n with
    | none => none
    | some ob => match ay (bh m q1 (bz rows1 i1 f1 .dead)) p with
     | none => none
     | some rows => match at2 rows i f with
      | none => none
      | some _ => some (bh (bh m q1 (bz rows1 i1 f1 .dead)) p (bz rows i f x), q1 ++ [(i1, f1)], ob)
theorem OZ {m m' : Rows} {p src : Path} {i f : Nat} {t : T1} {ob : Obs} (h : KR m p i f t = some (m', src, ob)) (ho : nR ob) : pF m p i f t = some (m', src) := by
 unfold KR at h
 unfold pF
 split at h
 ·cases h
 ·rename_i q1 i1 f1 n hs
  simp only [hs]
  split at h
  ·cases h
  ·rename_i rows1 h1
   simp only [h1]
   split at h
   ·cases h
   ·rename_i x h2
    simp only [h2]
    split at h
    ·cases h
    ·rename_i ob' hf
     split at h
     ·cases h
     ·rename_i rows h3
      split at h
      ·cases h
      ·rename_i c h4
       cases h
       rw [if_pos (Uw hf ho)]
       simp only [h3, h4]
def ie (p : Path) (i : Nat) : Nat -> St -> Nat -> List T1 -> Option (St × Obs)
 | _, st, _, [] => some (st, [])
 | 0, _, _, _ :: _ => none
 | n + 1, st, f, t :: ts => match oR t with
  | none => ie p i n st (f + 1) ts
  | some _ => match KR st.m p i f t with
   | none => none
   | some (m', src, ob) => match ie p i n { t := (st.t.map (TV.bX (T1.forget src))).map (TV.bX (T1.forget (p ++ [(i, f)]))), m := m' } (f + 1) (ts.map fun t => (T1.forget src t).forget (p ++ [(i, f)])) with
    | none => none
    | some (st', ob') => some (st', ob ++ ob')
theorem mQ {p : Path} {i : Nat} : ∀ (n : Nat) (st st' : St) (f : Nat) (ts : List T1) (ob : Obs), ie p i n st f ts = some (st', ob) -> nR ob -> bo st p i f ts = some st'
 | 0, st, st', f, [], ob, h, _ => by simp only [ie, Option.some.injEq, Prod.mk.injEq] at h; unfold bo; rw [h.1]
 | n + 1, st, st', f, [], ob, h, _ => by simp only [ie, Option.some.injEq, Prod.mk.injEq] at h; unfold bo; rw [h.1]
 | 0, st, st', f, t :: ts, ob, h, _ => by simp [ie] at h
 | n + 1, st, st', f, t :: ts, ob, h, ho => by
  unfold bo
  simp only [ie] at h
  split at h
  ·rename_i hs
   rw [hs]
   exact mQ n st st' (f + 1) ts ob h ho
  ·rename_i y hs
   rw [hs]
   simp only []
   split at h
   ·cases h
   ·rename_i m' src ob1 hm
    split at h
    ·cases h
    ·rename_i st2 ob2 hl
     cases h
     obtain ⟨o1, o2⟩ := ho.append
     rw [OZ hm o1]
     exact mQ n _ _ (f + 1) _ ob2 hl o2
def Xr (Ty : Types) (np : Nat) (st : St) (o : Oper) : Option (St × Obs) :=
 match o.op with
 | .store t p x => match Ty t with
  | none => none
  | some ti => match evT st p, jH (evT st x) with
   | .one (.pl q i f), some l => if q.isEmpty = false /\ l.length = ti.size then match ml st q i ti.szs f [] l with
     | none => none
     | some (st1, us) => (ie q i us.length st1 f us).map fun (st', ob) => (st'.put o.dst (.one .unk), ob)
    else none
   | _, _ => none
 | .box e x => match o.dst, jH (evT st x) with
  | some d, some l => if np <= d /\ (at2 st.m d 0).isSome = true then
    (ie [(d, 0)] 0 l.length { t := st.t.map (TV.bX (T1.forget [(d, 0)])), m := bz st.m d 0 (.bx (bt (((Ty e).map (·.szs)).getD []) l)) } 0 (l.map (T1.forget [(d, 0)]))).map fun (st', ob) => (st'.put (some d) (.one (.pl [(d, 0)] 0 0)), ob)
   else none
  | _, _ => none
 | _ => none
theorem Vs {Ty : Types} {np : Nat} {st st' : St} {o : Oper} {ob : Obs} (h : Xr Ty np st o = some (st', ob)) (ho : nR ob) : step Ty np st o = some st' := by
 unfold Xr at h
 split at h
 ·rename_i t p x hop
  split at h
  ·cases h
  rename_i ti hti
  split at h
  ·rename_i q i f l hp hx
   split at h
   ·rename_i hc
    split at h
    ·cases h
    ·rename_i st1 us hs
     cases ha : ie q i us.length st1 f us with
     | none => rw [ha] at h; cases h
     | some y =>
      obtain ⟨st2, ob2⟩ := y
      rw [ha] at h
      cases h
      have := mQ _ _ _ _ _ _ ha ho
      unfold step
      rw [hop]
      simp only [Kz, hti, hp, hx]
      rw [if_pos hc, hs]
      simp only [this, Option.map_some]
   ·cases h
  ·cases h
 ·rename_i e x hop
  split at h
  ·rename_i d l hd hx
   split at h
   ·rename_i hc
    cases ha : ie [(d, 0)] 0 l.length { t := st.t.map (TV.bX (T1.forget [(d, 0)])), m := bz st.m d 0 (.bx (bt (((Ty e).map (·.szs)).getD []) l)) } 0 (l.map (T1.forget [(d, 0)])) with
    | none => rw [ha] at h; cases h
    | some y =>
     obtain ⟨st2, ob2⟩ := y
     rw [ha] at h
     cases h
     have := mQ _ _ _ _ _ _ ha ho
     unfold step
     rw [hop]
     simp only [dR, hd, Ce, hx, Yd]
     rw [if_pos hc, this]
     rfl
   ·cases h
  ·cases h
 ·cases h
section
variable {P : Program} {Ty : Types} {B : da} {S : Nat -> Prop} {γ : Path -> Option Loc} {st : St} {a : Act} {w : World} {Q : AQ} {ops : Array Oper}
def opO (Ty : Types) (np : Nat) (ops : Array Oper) (st : St) (i : Nat) : Option (St × Obs) :=
 match ops[i]? with
 | none => none
 | some o => match dm ops st o with
  | some true => Xr Ty np st o
  | _ => none
def Mz (m : Rows) (row : List C) (ps : List Path) : T1 -> Option (T1 × List C × List Path × Obs)
 | .so q i f n => match ay m q with
  | none => none
  | some rows => match at2 rows i f with
   | some (.sl sz rs) => some (.so [] 0 row.length n, row ++ [.sl sz rs], ps ++ [q ++ [(i, f)]], [(rs.length, n)])
   | _ => none
 | t => (TZ m row ps t).map fun (t', r, p) => (t', r, p, [])
theorem GA {m : Rows} {row row' : List C} {ps ps' : List Path} {t t' : T1} {ob : Obs} (h : Mz m row ps t = some (t', row', ps', ob)) (ho : nR ob) : TZ m row ps t = some (t', row', ps') := by
 unfold Mz at h
 split at h
 ·rename_i q i f n
  split at h
  ·cases h
  ·rename_i rows hg
   split at h
   ·rename_i sz rs hc
    cases h
    unfold TZ
    simp only [hg, hc]
    rw [if_pos ho.1]
   ·cases h
 ·cases hx : TZ m row ps t with
  | none => rw [hx] at h; cases h
  | some y =>
   obtain ⟨a, b, c⟩ := y
   rw [hx] at h
   cases h
   rfl
def yB (m : Rows) (row : List C) (ps : List Path) : List T1 -> Option (List T1 × List C × List Path × Obs)
 | [] => some ([], row, ps, [])
 | t :: ts => match Mz m row ps t with
  | none => none
  | some (t', row', ps', ob) => match yB m row' ps' ts with
   | none => none
   | some (ts', row'', ps'', ob') => some (t' :: ts', row'', ps'', ob ++ ob')
theorem BG {m : Rows} : ∀ {ts : List T1} {row row' : List C} {ps ps' : List Path} {ts' : List T1} {ob : Obs}, yB m row ps ts = some (ts', row', ps', ob) -> nR ob -> MA m row ps ts = some (ts', row', ps')
 | [], _, _, _, _, _, _, h, _ => by simp only [yB, Option.some.injEq, Prod.mk.injEq] at h; obtain ⟨rfl, rfl, rfl, _⟩ := h; rfl
 | t :: ts, row, row', ps, ps', ts', ob, h, ho => by
  simp only [yB] at h
  split at h
  ·cases h
  ·rename_i t1 r1 p1 o1 h1
   split at h
   ·cases h
   ·rename_i ts2 r2 p2 o2 h2
    cases h
    obtain ⟨g1, g2⟩ := ho.append
    simp only [MA, GA h1 g1, BG h2 g2]
def Oi (m : Rows) (row : List C) (ps : List Path) : T2 -> Option (T2 × List C × List Path × Obs)
 | .one t => (Mz m row ps t).map fun (t', r) => (.one t', r)
 | .agg l => (yB m row ps l).map fun (l', r) => (.agg l', r)
def wP (m : Rows) (row : List C) (ps : List Path) : List T2 -> Option (List T2 × List C × List Path × Obs)
 | [] => some ([], row, ps, [])
 | t :: ts => match Oi m row ps t with
  | none => none
  | some (t', row', ps', ob) => match wP m row' ps' ts with
   | none => none
   | some (ts', row'', ps'', ob') => some (t' :: ts', row'', ps'', ob ++ ob')
theorem SK {m : Rows} {row row' : List C} {ps ps' : List Path} {t t' : T2} {ob : Obs} (h : Oi m row ps t = some (t', row', ps', ob)) (ho : nR ob) : My m row ps t = some (t', row', ps') := by
 cases t with
 | one t =>
  simp only [Oi] at h
  cases hx : Mz m row ps t with
  | none => rw [hx] at h; cases h
  | some y =>
   obtain ⟨a, b, c, d⟩ := y
   rw [hx] at h
   cases h
   simp only [My, GA hx ho]
 | agg l =>
  simp only [Oi] at h
  cases hx : yB m row ps l with
  | none => rw [hx] at h; cases h
  | some y =>
   obtain ⟨a, b, c, d⟩ := y
   rw [hx] at h
   cases h
   simp only [My, BG hx ho]
theorem Ep {m : Rows} : ∀ {ts : List T2} {row row' : List C} {ps ps' : List Path} {ts' : List T2} {ob : Obs}, wP m row ps ts = some (ts', row', ps', ob) -> nR ob -> Eo m row ps ts = some (ts', row', ps')
 | [], _, _, _, _, _, _, h, _ => by simp only [wP, Option.some.injEq, Prod.mk.injEq] at h; obtain ⟨rfl, rfl, rfl, _⟩ := h; rfl
 | t :: ts, row, row', ps, ps', ts', ob, h, ho => by
  simp only [wP] at h
  split at h
  ·cases h
  ·rename_i t1 r1 p1 o1 h1
   split at h
   ·cases h
   ·rename_i ts2 r2 p2 o2 h2
    cases h
    obtain ⟨g1, g2⟩ := ho.append
    simp only [Eo, SK h1 g1, Ep h2 g2]
def MB (m : Rows) : TV -> Option (TV × List C × List Path × Obs)
 | .one t => (Mz m [] [] t).map fun (t', r) => (.one t', r)
 | .agg l => (yB m [] [] l).map fun (l', r) => (.agg l', r)
 | .tup l => (wP m [] [] l).map fun (l', r) => (.tup l', r)
theorem Oj {m : Rows} {t t' : TV} {row : List C} {ps : List Path} {ob : Obs} (h : MB m t = some (t', row, ps, ob)) (ho : nR ob) : GC m t = some (t', row, ps) := by
 cases t with
 | one t =>
  simp only [MB] at h
  cases hx : Mz m [] [] t with
  | none => rw [hx] at h; cases h
  | some y => obtain ⟨a, b, c, d⟩ := y; rw [hx] at h; cases h; simp only [GC, GA hx ho]
 | agg l =>
  simp only [MB] at h
  cases hx : yB m [] [] l with
  | none => rw [hx] at h; cases h
  | some y => obtain ⟨a, b, c, d⟩ := y; rw [hx] at h; cases h; simp only [GC, BG hx ho]
 | tup l =>
  simp only [MB] at h
  cases hx : wP m [] [] l with
  | none => rw [hx] at h; cases h
  | some y => obtain ⟨a, b, c, d⟩ := y; rw [hx] at h; cases h; simp only [GC, Ep hx ho]
def WC (Ty : Types) (st : St) (rs : List ResultVar) : Option (TV × List C × Obs) :=
 match Ve Ty st rs with
 | none => none
 | some ts => match MW ts with
  | none => none
  | some t => match MB st.m t with
   | none => none
   | some (res, row, ps, ob) => if ig ps then some (res, row, ob) else none
theorem WD {rs : List ResultVar} {res res' : TV} {row row' : List C} {ob : Obs} (h : WC Ty st rs = some (res', row', ob)) (ho : nR ob) (e : res' = res) (er : row' = row) : XI Ty st rs = some (res, row) := by
 subst e er
 unfold WC at h
 unfold XI
 split at h
 ·cases h
 ·rename_i ts hts
  simp only [hts]
  split at h
  ·cases h
  ·rename_i t ht
   simp only [ht]
   split at h
   ·cases h
   ·rename_i r1 w1 ps ob1 ho1
    split at h
    ·rename_i hap
     cases h
     rw [Oj ho1 ho]
     simp only [hap, if_true]
    ·cases h
end
end Go.Mv
namespace Go.Mv
open Go.RowKit
def Rp (st : St) : List Operand -> Option (List C)
 | [] => some []
 | x :: xs => match evT st x, Rp st xs with
  | .one (.c c), some cs => some (c :: cs)
  | _, _ => none
section
variable {P : Program} {Ty : Types} {B : da} {S : Nat -> Prop} {γ : Path -> Option Loc} {st : St} {a : Act} {w : World} {Q : AQ} {ops : Array Oper}
theorem Ic (hR : Rel B S γ st a w) : ∀ {xs : List Operand} {cs : List C}, Rp st xs = some cs -> bG w S cs (xs.map a.eval)
 | [], cs, h => by cases h; exact .nil
 | x :: xs, cs, h => by
  simp only [Rp] at h
  split at h
  ·rename_i c cs' h1 h2
   cases h
   have hx := hR.evT x
   rw [h1] at hx
   exact .cons hx (Ic hR h2)
  ·cases h
def RG (ops : Array Oper) (st : St) (i : Nat) : Option (Nat × FuncId × List C) :=
 match ops[i]? with
 | none => none
 | some o => match dm ops st o, o.dst, o.op with
  | some true, some d, .makeFunc (.func f) first captured => if first.size = 0 then (Rp st captured.toList).map fun cs => (d, f, cs) else none
  | _, _, _ => none
theorem Zd {i d : Nat} {l : List Nat} {f : FuncId} {cs : List C} {st1 : St} (ks : List Nat) (h : RG ops st i = some (d, f, cs)) (hst : (st.put (some d) (.one (.c (.fn f cs)))).ka ks = st1) (rest : yc P B ops l Q st1) : yc P B ops (i :: l) Q st := fun a w hR => by
 unfold RG at h
 split at h
 ·cases h
 rename_i o ho
 split at h
 ·rename_i d' f' first captured hw hd hop
  split at h
  ·rename_i h0
   cases hc : Rp st captured.toList with
   | none => rw [hc] at h; cases h
   | some cs' =>
    rw [hc] at h
    cases h
    obtain ⟨S, γ, hR, hS⟩ := hR
    have hv := Ic hR hc
    have e0 : first = #[] := Array.size_eq_zero_iff.1 h0
    subst hst
    unfold wpOps
    rw [ho]
    show if Region.wanted o (yielded ops a.tmps) = true then _ else _
    rw [if_pos (cV hR hw)]
    refine .inl ?_
    unfold Oper.wp
    have hrun : (execOp a.eval o).run P w = .ok (.value (.func (.func f) #[] (captured.toList.map a.eval).toArray)) w := by
     have ec : (captured.toList.map a.eval).toArray = captured.map a.eval := by cases captured; simp
     rw [ec]
     simp [execOp, hop, Instr.makeFunc, e0]
    rw [hrun]
    refine rest _ _ (iU ks ⟨S, γ, ?_, hS⟩)
    rw [hd]
    exact hR.put (t := .one (.c (.fn f cs))) (gd.fn hv) (some d)
  ·cases h
 ·cases h
def uh (ops : Array Oper) (st : St) (i : Nat) : Option (FuncId × Nat × List TV) :=
 match ops[i]? with
 | none => none
 | some o => match dm ops st o, o.dst, o.op with
  | some true, some d, .call { callee := .value x, args, argTypes := _ } => match evT st x with
   | .one (.c (.fn f cs)) => some (f, d, args.toList.map (evT st) ++ cs.map fun c => .one (.c c))
   | _ => none
  | _, _, _ => none
theorem Dh {i d : Nat} {f : FuncId} {A : List TV} (h : uh ops st i = some (f, d, A)) :
  ∃ (o : Oper) (x : Operand) (args : Array Operand) (argTypes : Array TypeId) (cs : List C), ops[i]? = some o /\ o.op = .call { callee := .value x, args, argTypes } /\ dm ops st o = some true /\ o.dst = some d /\ evT st x = .one (.c (.fn f cs)) /\
   args.toList.map (evT st) ++ cs.map (fun c => .one (.c c)) = A := by
 unfold uh at h
 split at h
 ·cases h
 rename_i o ho
 split at h
 ·rename_i d' x args argTypes hw hd hop
  split at h
  ·rename_i f' cs hx
   cases h
   exact ⟨o, x, args, argTypes, cs, ho, hop, hw, hd, hx, rfl⟩
  ·cases h
 ·cases h
theorem gd.Yo {f : FuncId} {cs : List C} {x : Value} (h : gd w S (.fn f cs) x) : ∃ vals, x = .func (.func f) #[] vals.toArray /\ bG w S cs vals := by
 cases h with
 | fn hs => exact ⟨_, rfl, hs⟩
theorem SY {x : Operand} {f : FuncId} {args : Array Operand} {argTypes : Array TypeId} {o : Oper} {vals : List Value} (hop : o.op = .call { callee := .value x, args, argTypes }) (hx : a.eval x = .func (.func f) #[] vals.toArray) (hE : nQ P f) :
  (execOp a.eval o).run P w = .ok (.enter f ((args.toList.map a.eval) ++ vals).toArray) w := by
 simp [execOp, hop, resolve, Deferred.ofValue, hx, invoke, hE _ w]
theorem Xz (hR : Rel B S γ st a w) {args : Array Operand} {cs : List C} {vals : List Value} (hc : bG w S cs vals) : cK (aD w S γ) (args.toList.map (evT st) ++ cs.map fun c => .one (.c c)) (args.toList.map a.eval ++ vals) := by
 have h1 : cK (aD w S γ) (args.toList.map (evT st)) (args.toList.map a.eval) := by
  refine ⟨by simp, fun k t x ht hx => ?_⟩
  obtain ⟨y, hy, rfl⟩ := ax ht
  rw [List.getElem?_map, hy] at hx
  cases hx
  exact hR.evT y
 have h2 : cK (aD w S γ) (cs.map fun c => .one (.c c)) vals := by
  refine ⟨by rw [List.length_map]; exact hc.length, fun k t x ht hx => ?_⟩
  obtain ⟨c, hk, rfl⟩ := ax ht
  obtain ⟨y, hy, hr⟩ := hc.get hk
  rw [hx] at hy
  cases hy
  exact hr
 refine ⟨by simp only [List.length_append, h1.1, h2.1], fun k t x ht hx => ?_⟩
 by_cases hk : k < (args.toList.map (evT st)).length
 ·rw [List.getElem?_append_left hk] at ht
  rw [List.getElem?_append_left (by rw [<- h1.1]; exact hk)] at hx
  exact h1.2 k t x ht hx
 ·rw [List.getElem?_append_right (by omega)] at ht
  rw [List.getElem?_append_right (by rw [<- h1.1]; omega), <- h1.1] at hx
  exact h2.2 _ t x ht hx
theorem Ui {i d : Nat} {l : List Nat} {f : FuncId} {A A' : List TV} {res : TV} {row : List C} {st1 : St} (ks : List Nat) (hC : ab P f A' res row) (hE : nQ P f) (h : uh ops st i = some (f, d, A)) (hL : sw st.m A A') (hc : Ah res = true) (hr : cz [row])
  (hd : (decide (B.np <= d) && decide (d < st.m.length)) = true) (hst : (st.dd d res row).ka ks = st1) (k : yc P B ops l Q st1) : yc P B ops (i :: l) Q st := fun a w hR => by
 obtain ⟨o, x, args, argTypes, cs, ho, hop, hw, hdst, hx, hA⟩ := Dh h
 obtain ⟨S, γ, hR, hS⟩ := hR
 simp only [Bool.and_eq_true, decide_eq_true_eq] at hd
 subst hA hst
 have hxv := hR.evT x
 rw [hx] at hxv
 obtain ⟨vals, hxe, hvs⟩ := gd.Yo (show gd w S (.fn f cs) (a.eval x) from hxv)
 unfold wpOps
 rw [ho]
 show if Region.wanted o (yielded ops a.tmps) = true then _ else _
 rw [if_pos (cV hR hw)]
 refine .inl ?_
 unfold Oper.wp
 rw [SY hop hxe hE, Oper.upon_enter]
 have := Oa hR hC hL (Xz hR hvs) hc hr
 refine this.mono fun e w' hq => ?_
 obtain ⟨v, rfl, hret⟩ := hq
 rw [hdst]
 exact k _ _ (iU ks (hR.call hS hret hd.1 hd.2))
end
end Go.Mv
namespace Go.Mv
open Go.RowKit
def cellAt (m : Rows) (q : Path) (i f : Nat) : Option C := (ay m q).bind fun rs => at2 rs i f
theorem WY {m : Rows} {q : Path} {i f n sz : Nat} {rows : Rows} (h : cellAt m q i f = some (.sl sz rows)) (hn : rows.length = n) : wg m (.so q i f n) (.c (.sl sz rows)) := by
 unfold cellAt at h
 cases hq : ay m q with
 | none => rw [hq] at h; cases h
 | some rs => rw [hq] at h; exact .so hq h hn
theorem WX {m : Rows} {p : Path} (q : Path) (i f : Nat) {row : List C} (hp : p = q ++ [(i, f)]) (h : cellAt m q i f = some (.bx row)) : wg m (.pl p 0 0) (.c (.bx row)) := by
 subst hp
 unfold cellAt at h
 cases hq : ay m q with
 | none => rw [hq] at h; cases h
 | some rs => rw [hq] at h; exact .bx hq h
theorem aw : cz [[]] := fun r hr c hc => by
 simp only [List.mem_singleton] at hr
 subst hr
 cases hc
theorem aN {c : C} {row : List C} (h : Clean c) (k : cz [row]) : cz [c :: row] := fun r hr c' hc => by
 simp only [List.mem_singleton] at hr
 subst hr
 rcases List.mem_cons.1 hc with rfl | hc
 ·exact h
 ·exact k row (by simp) c' hc
theorem ba {α : Type} {en : α -> List C} {sz : Nat} (h : ∀ x, ∀ c ∈ en x, ∃ u, c = .v u) (xs : List α) : Clean (.sl sz (xs.map en)) := .sl fun r hr c hc => by
 obtain ⟨x, _, rfl⟩ := List.mem_map.1 hr
 obtain ⟨u, rfl⟩ := h x c hc
 exact .v
theorem get_map {α : Type} {xs : List α} {en : α -> List C} {k : Nat} {y : α} (h : xs[k]? = some y) : (xs.map en)[k]? = some (en y) := by
 rw [List.getElem?_map, h]
 rfl
end Go.Mv
namespace Go.Mv
open Go.RowKit
def Zn : Option Loc -> Nat -> Value
 | some l, n => .slice (some ⟨l.b, l.off, none⟩) n l.cap
 | none, _ => .slice none 0 0
def toV (np : Nat) (g : Path -> Option Loc) : T1 -> T1
 | .so [] i f n => if i < np then .c (.v (Zn (g [(i, f)]) n)) else .so [] i f n
 | t => t
section
variable {P : Program} {Ty : Types} {B : da} {S : Nat -> Prop} {γ : Path -> Option Loc} {st : St} {a : Act} {w : World} {Q : AQ} {ops : Array Oper}
theorem Zv (hR : Rel B S γ st a w) {i f n sz : Nat} {rows : Rows} (hi : i < B.np) (hc : at2 st.m i f = some (.sl sz rows)) {x : Value} (hx : au w S γ (.so [] i f n) x) : x = Zn (B.g [(i, f)]) n := by
 have hf := hR.fix i f _ hi hc (by simp [C.rows])
 rcases hx with ⟨l, hl, hx, _⟩ | ⟨hl, _, hx⟩
 ·simp only [List.nil_append] at hl
  rw [<- hf, hl, hx]
  rfl
 ·simp only [List.nil_append] at hl
  rw [<- hf, hl, hx]
  rfl
theorem RS (l : Option Loc) (n : Nat) : plain (Zn l n) = true := by cases l <;> rfl
def sK (st : St) (np : Nat) : List T1 -> Prop
 | [] => True
 | .so [] i f n :: l => i < np /\ (∃ sz rows, at2 st.m i f = some (.sl sz rows) /\ rows.length = n) /\ sK st np l
 | .c (.v _) :: l => sK st np l
 | _ :: _ => False
def Yg : T1 -> C
 | .c (.v u) => .v u
 | _ => .dead
theorem sK.cells (hR : Rel B S γ st a w) : ∀ {l : List T1} {xs : List Value}, sK st B.np l -> cK (au w S γ) l xs -> cK (fun c v => Hdr w S c none v) ((l.map (toV B.np B.g)).map Yg) xs
 | [], xs, _, h => by
  have : xs = [] := List.eq_nil_of_length_eq_zero (by rw [<- h.1]; rfl)
  subst this
  exact .nil
 | .so [] i f n :: l, xs, h, hx => by
  obtain ⟨x, xs', rfl, g1, g2⟩ := hx.dQ
  obtain ⟨hi, ⟨sz, rows, hc, hn⟩, hl⟩ := h
  have := Zv hR hi hc g1
  subst this
  simp only [List.map_cons, toV, hi, if_true, Yg]
  exact .cons ⟨rfl, RS _ _⟩ (sK.cells hR hl g2)
 | .c (.v u) :: l, xs, h, hx => by
  obtain ⟨x, xs', rfl, g1, g2⟩ := hx.dQ
  have hr : gd w S (.v u) x := g1
  refine .cons ?_ (sK.cells hR (show sK st B.np l from h) g2)
  cases hr with
  | v hp => exact ⟨rfl, hp⟩
end
end Go.Mv
namespace Go.Mv
open Go.RowKit
section
variable {P : Program} {Ty : Types} {B : da} {S : Nat -> Prop} {γ : Path -> Option Loc} {st : St} {a : Act} {w : World} {Q : AQ} {ops : Array Oper} {q : Path} {i f : Nat}
end
end Go.Mv
namespace Go.Mv
open Go.RowKit
section
variable {P : Program} {Ty : Types} {B : da} {S : Nat -> Prop} {γ : Path -> Option Loc} {st : St} {a : Act} {w : World} {Q : AQ} {ops : Array Oper}
end
end Go.Mv
namespace Go.Mv
open Go.RowKit
section
variable {P : Program} {Ty : Types} {B : da} {S : Nat -> Prop} {γ : Path -> Option Loc} {st : St} {a : Act} {w : World} {Q : AQ} {ops : Array Oper}
theorem Pa (w : World) (o : Obj) : (w.alloc o).heap.size = w.heap.size + 1 := by show (w.heap.push o).size = _; simp
theorem Rel.alloc (h : Rel B S γ st a w) (o : Obj) : Rel B S γ st a (w.alloc o) := by
 have hSw : ∀ b, S b -> (w.alloc o).heap[b]? = w.heap[b]? := fun b hb => cH w _ (h.lt b hb)
 refine ⟨h.sS, fun b hb => ?_, h.mem.frame (fun _ hb => hb) hSw (fun q rows l hq hr hl => ⟨cH w _ (h.mem.lt hq hr hl), by
  have := h.mem.loc q rows hq hr
  rw [hl] at this
  exact this.1⟩), fun k t hk => aD.imp (fun _ _ ht => au.frame (fun _ hb => hb) hSw ht) (h.tv k t hk), h.size, h.msize, h.defers, h.own, h.fix, h.fr.alloc _⟩
 have := h.lt b hb
 rw [Pa]
 omega
theorem rF {k : Nat} {t t' : TV} (h : st.t[k]? = some t) (e : t = t') (hR : lz B st a w) : lz B { st with t := st.t.set k t' } a w := by
 subst e
 have : st.t.set k t = st.t := by
  apply List.ext_getElem?
  intro j
  by_cases hk : k = j
  ·subst hk
   rw [List.getElem?_set_self (List.getElem?_eq_some_iff.1 h).1, h]
  ·rw [List.getElem?_set_ne hk]
 rw [this]
 exact hR
end
end Go.Mv
namespace Go.Mv
open Go.RowKit
structure Zz (w : World) (S : Nat -> Prop) (cs : List C) (γ : Path -> Option Loc) (w' : World) (outs : List C) (res : TV) (row : List C) (v : Value) : Prop where
 fr : Frame (kJ w S [cs] γ) w'
 ex : ∃ S' γ' γr, (∀ b, S b -> S' b) /\ (∀ b, S' b -> S b \/ w.heap.size <= b) /\ (∀ b, S' b -> b < w'.heap.size) /\ bf w' S' [outs] γ' /\ bf w' S' [row] γr /\ aD w' S' γr res v /\
  (∀ k c, outs[k]? = some c -> c.rows ≠ none -> γ' [(0, k)] = γ [(0, k)]) /\
  (∀ q rows l, q ≠ [] -> ay [outs] q = some rows -> γ' q = some l -> yN (kJ w S [cs] γ) l) /\
  (∀ q rows l, q ≠ [] -> ay [row] q = some rows -> γr q = some l -> yN (kJ w S [cs] γ) l) /\
  (∀ q rows l q' rows' l', q ≠ [] -> ay [outs] q = some rows -> γ' q = some l -> q' ≠ [] -> ay [row] q' = some rows' -> γr q' = some l' -> l.b ≠ l'.b)
def lA (P : Program) (f : FuncId) (cs : List C) (args : List TV) (outs : List C) (res : TV) (row : List C) : Prop :=
 ∀ (w : World) (S : Nat -> Prop) (γ : Path -> Option Loc) (vals : List Value), (∀ b, S b -> b < w.heap.size) -> bf w S [cs] γ -> cK (aD w S γ) args vals ->
  Calls P f vals.toArray w fun e w' => ∃ v, e = .returned v /\ Zz w S cs γ w' outs res row v
def ui : List C -> List C
 | [] => []
 | c :: cs => match ui cs with
  | [] => if mW c then [] else [c]
  | l => c :: l
theorem Am : ∀ {l : List C} {k : Nat} {c : C}, (ui l)[k]? = some c -> l[k]? = some c
 | [], k, c, h => by simp [ui] at h
 | x :: xs, k, c, h => by
  simp only [ui] at h
  split at h
  ·split at h
   ·simp at h
   ·cases k with
    | zero => simpa using h
    | succ k => simp at h
  ·rename_i hne
   cases k with
   | zero => simpa using h
   | succ k =>
    rw [List.getElem?_cons_succ] at h ⊢
    exact Am h
def ve (m : Rows) (ps : List Path) : Option (List C) :=
 match m with
 | [] => none
 | r :: _ => if ps.all (fun p => p.length == 1 || !bJ 0 p) then some (ui (r.mapIdx fun k c => if ps.contains [(0, k)] then .dead else c)) else none
def Pn (Ty : Types) (st : St) (rs : List ResultVar) : Option (List C × TV × List C) :=
 match Ve Ty st rs with
 | none => none
 | some ts => match MW ts with
  | none => none
  | some t => match GC st.m t with
   | none => none
   | some (res, row, ps) => if ig ps then match ve st.m ps with
    | none => none
    | some outs => some (outs, res, row)
    else none
def ZB (Ty : Types) (rs : List ResultVar) (outs : List C) (res : TV) (row : List C) : AQ
 | .normal, st => Pn Ty st rs = some (outs, res, row)
 | .ret, st => Pn Ty st rs = some (outs, res, row)
 | _, _ => False
section
variable {P : Program} {Ty : Types} {B : da} {S : Nat -> Prop} {γ : Path -> Option Loc} {st : St} {a : Act} {w : World}
theorem BI {m : Rows} {ps : List Path} {outs : List C} (h : ve m ps = some outs) {k : Nat} {c : C} (hc : outs[k]? = some c) :
  c = .dead \/ (at2 m 0 k = some c /\ [(0, k)] ∉ ps) := by
 unfold ve at h
 split at h
 ·cases h
 ·rename_i r m'
  split at h
  ·cases h
   replace hc := Am hc
   rw [List.getElem?_mapIdx] at hc
   cases hr : r[k]? with
   | none => rw [hr] at hc; cases hc
   | some c0 =>
    rw [hr] at hc
    simp only [Option.map_some, Option.some.injEq] at hc
    split at hc
    ·exact .inl hc.symm
    ·rename_i hn
     subst hc
     exact .inr ⟨by simp [at2, hr], by simpa using hn⟩
  ·cases h
theorem JV {m : Rows} {ps : List Path} {outs : List C} (h : ve m ps = some outs) {p : Path} (hp : p ∈ ps) : p.length = 1 \/ bJ 0 p = false := by
 unfold ve at h
 split at h
 ·cases h
 ·split at h
  ·rename_i hall
   rw [List.all_eq_true] at hall
   have := hall p hp
   simpa using this
  ·cases h
theorem nc {m : Rows} {ps : List Path} {outs : List C} (h : ve m ps = some outs) {q : Path} {rows : Rows} (hq : q ≠ []) (hr : ay [outs] q = some rows) :
  ay m q = some rows /\ ∀ p ∈ ps, p ≠ [] -> ¬ p <+: q := by
 cases q with
 | nil => exact absurd rfl hq
 | cons x s =>
  obtain ⟨i, k⟩ := x
  simp only [ay] at hr
  cases hc : at2 [outs] i k with
  | none => rw [hc] at hr; cases hr
  | some c =>
   obtain ⟨rfl, hk⟩ := wv hc
   rw [hc] at hr
   rcases BI h hk with rfl | ⟨hm, hn⟩
   ·cases hr
   ·refine ⟨by simp only [ay, hm]; exact hr, fun p hp hne hpre => ?_⟩
    rcases JV h hp with h1 | h1
    ·cases p with
     | nil => simp at h1
     | cons y p =>
      have : p = [] := List.eq_nil_of_length_eq_zero (by simpa using h1)
      subst this
      rw [List.cons_prefix_cons] at hpre
      rw [hpre.1] at hp
      exact hn hp
    ·cases p with
     | nil => exact hne rfl
     | cons y p =>
      rw [List.cons_prefix_cons] at hpre
      rw [hpre.1] at h1
      simp [bJ] at h1
theorem UW {m : Rows} {ps : List Path} {outs : List C} (hm : bf w S m γ) (h : ve m ps = some outs) : bf w S [outs] γ := by
 refine ⟨fun q rows hq hr => hm.loc q rows hq (nc h hq hr).1, fun q rows l i f c hq hr => hm.cell q rows l i f c hq (nc h hq hr).1, fun i f c hc => ?_,
  fun q q' rows rows' l l' hq hq' hr hr' => hm.inj q q' rows rows' l l' hq hq' (nc h hq hr).1 (nc h hq' hr').1⟩
 obtain ⟨rfl, hk⟩ := wv hc
 rcases BI h hk with rfl | ⟨h1, _⟩
 ·exact ⟨.bool true, rfl⟩
 ·exact hm.head 0 f c h1
theorem Zg {f : FuncId} {fn : Func} {c : Code} {cs : List C} {args : List TV} {outs : List C} {res : TV} {row : List C} (hTy : lT P Ty) (hf : P.funcs[f]? = some fn) (hb : fn.body = some c) (hl : 1 <= args.length)
  (h : ∀ w S γ, (∀ b, S b -> b < w.heap.size) -> AWp P (kJ w S [cs] γ) c (ZB Ty fn.results.toList outs res row) (sT [cs] args fn.ntmps)) : lA P f cs args outs res row := by
 intro w S γ vals hS hm hv
 have key := h w S γ hS _ _ (Le (n := fn.ntmps) hS hm hv hl)
 refine calls_of_wp hf hb (wp_mono key fun e a w' hq => ?_)
 have done : ∀ st, Pn Ty st fn.results.toList = some (outs, res, row) -> lz (kJ w S [cs] γ) st a w' ->
   a.defers = [] /\ ∃ v, (results fn a.tmps).run P w' = .ok v w' /\ ∃ u, Ending.returned v = .returned u /\ Zz w S cs γ w' outs res row u := by
  intro st he hR
  unfold Pn at he
  split at he
  ·cases he
  ·rename_i ts hts
   split at he
   ·cases he
   ·rename_i t ht
    split at he
    ·cases he
    ·rename_i res' row' ps ho
     split at he
     ·rename_i hap
      split at he
      ·cases he
      ·rename_i outs' hos
       cases he
       obtain ⟨S1, γ1, hR1, hSn⟩ := hR
       obtain ⟨v, h1, h2⟩ := tl hTy hR1 hts ht
       obtain ⟨hH, hval⟩ := Om hR1.mem ho h2
       refine ⟨hR1.defers, v, h1, v, rfl, hR1.fr, S1, γ1, sW γ1 ps, hR1.sS, hSn, hR1.lt, UW hR1.mem hos, hR1.mem.hand hH hap, hval, fun k c hk hr => ?_, fun q rows l hq hr hl => hR1.own q rows l hq (nc hos hq hr).1 hl,
        fun q rows l hq hr hl => ?_, fun q rows l q' rows' l' hq hr hl hq' hr' hl' hb => ?_⟩
       ·rcases BI hos hk with rfl | ⟨h3, _⟩
        ·exact absurd rfl hr
        ·exact hR1.fix 0 k c (Nat.lt_of_lt_of_le Nat.zero_lt_one (by simp [kJ])) h3 hr
       ·obtain ⟨j, s, p, rfl, hp, hne, hr⟩ := fw hH hq hr
        exact hR1.own _ rows l (by simp [hne]) hr (by simpa [sW, hp] using hl)
       ·obtain ⟨j, s, p, rfl, hp, hne, hr'⟩ := fw hH hq' hr'
        obtain ⟨g1, g2⟩ := nc hos hq hr
        have := hR1.mem.inj q (p ++ s) rows rows' l l' hq (by simp [hne]) g1 hr' hl (by simpa [sW, hp] using hl') hb
        exact g2 p (List.mem_of_getElem? hp) hne (this ▸ List.prefix_append p s)
     ·cases he
 cases e with
 | normal => obtain ⟨st, h1, h2⟩ := hq; exact done st h1 h2
 | ret => obtain ⟨st, h1, h2⟩ := hq; exact done st h1 h2
 | panic c => exact hq.elim
 | outgrown => exact hq.elim
 | exit id => obtain ⟨st, h1, h2⟩ := hq; exact h1
 | goto l => obtain ⟨st, h1, h2⟩ := hq; exact h1
def Bn (st : St) : List Path -> Option St
 | [] => some st
 | p :: ps => if p.isEmpty then Bn st ps else match p.getLast? with
  | none => none
  | some (i, f) => match ay st.m p.dropLast with
   | none => none
   | some rows => match at2 rows i f with
    | none => none
    | some _ => Bn { t := st.t.map (TV.bX (T1.forget p)), m := bh st.m p.dropLast (bz rows i f .dead) } ps
def Oz (st : St) : List Path -> List C -> Option St
 | _, [] => some st
 | [], _ :: _ => none
 | p :: ps, x :: xs => if mW x then Oz st ps xs else match p.getLast? with
  | none => none
  | some (i, f) => match ay st.m p.dropLast with
   | none => none
   | some rows => match at2 rows i f with
    | none => none
    | some _ => Oz { t := st.t.map (TV.bX (T1.forget p)), m := bh st.m p.dropLast (bz rows i f x) } ps xs
theorem Bp {p : Path} {x : Nat × Nat} (h : p.getLast? = some x) : p = p.dropLast ++ [x] := by
 have hne : p ≠ [] := fun e => by subst e; cases h
 have e := List.dropLast_concat_getLast hne
 rw [List.getLast?_eq_some_getLast hne] at h
 simp only [Option.some.injEq] at h
 rw [h] at e
 exact e.symm
theorem uX : ∀ (ps : List Path) (γ0 : Path -> Option Loc) (st0 stk : St), Rel B S γ0 st0 a w -> Bn st0 ps = some stk -> ∃ γk, Rel B S γk stk a w /\ (∀ p, (∀ p' ∈ ps, p' ≠ [] -> ¬ p' <+: p) -> γk p = γ0 p) /\
  ∀ p rs, p ≠ [] -> ay stk.m p = some rs -> ∃ rs0, ay st0.m p = some rs0 /\ ∀ p' ∈ ps, p' ≠ [] -> ¬ p' <+: p
 | [], γ0, st0, stk, hR, h => by
  cases h
  exact ⟨γ0, hR, fun _ _ => rfl, fun p rs _ hr => ⟨rs, hr, fun _ hp => by cases hp⟩⟩
 | p0 :: ps, γ0, st0, stk, hR, h => by
  simp only [Bn] at h
  split at h
  ·rename_i he
   have he : p0 = [] := by cases p0 <;> simp_all
   obtain ⟨γk, h1, h2, h3⟩ := uX ps _ _ stk hR h
   refine ⟨γk, h1, fun p hp => h2 p fun p' hp' => hp p' (List.mem_cons_of_mem _ hp'), fun p rs hp hr => ?_⟩
   obtain ⟨rs0, g1, g2⟩ := h3 p rs hp hr
   refine ⟨rs0, g1, fun p' hp' hne => ?_⟩
   rcases List.mem_cons.1 hp' with rfl | hp'
   ·exact absurd he hne
   ·exact g2 p' hp' hne
  ·rename_i hne0
   have hne0 : p0 ≠ [] := by cases p0 <;> simp_all
   split at h
   ·cases h
   ·rename_i i f hl
    have hp0 := Bp hl
    generalize hq0 : p0.dropLast = q at *
    split at h
    ·cases h
    ·rename_i rows hq
     split at h
     ·cases h
     ·rename_i c0 hc
      have hkill := hR.mem.kill hq hc
      have hR1 := hR.Oy (x := .dead) (δ := fun _ => none) hkill hq hc (fun _ _ => rfl) (Nat.le_refl _) hR.fr (fun s rs l hg => by simp [cS, C.rows] at hg) (fun _ _ hd => absurd rfl hd)
      rw [<- hp0] at hR1
      obtain ⟨γk, h1, h2, h3⟩ := uX ps _ _ stk hR1 h
      refine ⟨γk, h1, fun p hp => ?_, fun p rs hp hr => ?_⟩
      ·rw [h2 p fun p' hp' => hp p' (List.mem_cons_of_mem _ hp'), bu (by rw [<- hp0]; exact hp p0 (by simp) hne0)]
      ·obtain ⟨rs1, g1, g2⟩ := h3 p rs hp hr
       rcases @fm st0.m rows q i f .dead c0 hq hc p rs1 g1 with ⟨s, _, hg⟩ | ⟨hn, rs0, hg0, _⟩
       ·simp [cS, C.rows] at hg
       ·refine ⟨rs0, hg0, fun p' hp' hne => ?_⟩
        rcases List.mem_cons.1 hp' with rfl | hp'
        ·rw [hp0]; exact hn
        ·exact g2 p' hp' hne
theorem GK {w' : World} {γ' : Path -> Option Loc} {outs : List C} {pls : List Path} (hm : bf w' S [outs] γ') (hap : ∀ (j j' : Nat) (p p' : Path), pls[j]? = some p -> pls[j']? = some p' -> p ≠ [] -> p' ≠ [] -> p <+: p' -> j = j') :
  ∀ (xs : List C) (ps : List Path) (k : Nat) (γc : Path -> Option Loc) (stc stf : St), outs.drop k = xs -> pls.drop k = ps -> Rel B S γc stc a w' -> Oz stc ps xs = some stf ->
  (∀ j x q i f l, outs[j]? = some x -> mW x = false -> pls[j]? = some (q ++ [(i, f)]) -> q ≠ [] -> γc q = some l -> ∃ v, Hdr w' S x (γ' [(0, j)]) v /\ w'.cell? ⟨l.b, l.off + i * l.sz + f, none⟩ = some v) ->
  (∀ p rs l, p ≠ [] -> ay stc.m p = some rs -> γc p = some l -> ∀ j s rs' l', k <= j -> ay [outs] ((0, j) :: s) = some rs' -> γ' ((0, j) :: s) = some l' -> l.b ≠ l'.b) ->
  (∀ j s rs' l', ay [outs] ((0, j) :: s) = some rs' -> γ' ((0, j) :: s) = some l' -> yN B l') ->
  (∀ j x i f, outs[j]? = some x -> x.rows ≠ none -> pls[j]? = some [(i, f)] -> i < B.np -> γ' [(0, j)] = B.g [(i, f)]) ->
  ∃ γf, Rel B S γf stf a w' /\ (∀ p, (∀ j p', k <= j -> pls[j]? = some p' -> p' ≠ [] -> ¬ p' <+: p) -> γf p = γc p) /\ (∀ j x p, k <= j -> outs[j]? = some x -> mW x = false -> pls[j]? = some p -> γf p = γ' [(0, j)]) /\
   (∀ p rs, p ≠ [] -> ay stf.m p = some rs -> (∃ rs0, ay stc.m p = some rs0 /\ γf p = γc p) \/ ∃ j s p' rs', k <= j /\ pls[j]? = some p' /\ p = p' ++ s /\ ay [outs] ((0, j) :: s) = some rs' /\ γf p = γ' ((0, j) :: s))
 | [], ps, k, γc, stc, stf, hx, _, hR, h, _, _, _, _ => by
  simp only [Oz, Option.some.injEq] at h
  subst h
  refine ⟨γc, hR, fun _ _ => rfl, fun j x p hj ho => ?_, fun p rs _ hr => .inl ⟨rs, hr, rfl⟩⟩
  have := List.getElem?_drop (xs := outs) (i := k) (j := j - k)
  rw [hx, show k + (j - k) = j by omega, ho] at this
  simp at this
 | x :: xs, [], k, γc, stc, stf, _, _, _, h, _, _, _, _ => by simp [Oz] at h
 | x :: xs, p0 :: ps, k, γc, stc, stf, hx, hpl, hR, h, hh, hapm, hown, hfix => by
  have hk : outs[k]? = some x := by
   have := List.getElem?_drop (xs := outs) (i := k) (j := 0)
   rw [hx] at this
   simpa using this.symm
  have hpk : pls[k]? = some p0 := by
   have := List.getElem?_drop (xs := pls) (i := k) (j := 0)
   rw [hpl] at this
   simpa using this.symm
  have hx' : outs.drop (k + 1) = xs := by rw [<- List.drop_drop, hx]; rfl
  have hpl' : pls.drop (k + 1) = ps := by rw [<- List.drop_drop, hpl]; rfl
  simp only [Oz] at h
  split at h
  ·rename_i hdx
   obtain ⟨γf, g1, g2, g3, g4⟩ := GK hm hap xs ps (k + 1) γc stc stf hx' hpl' hR h hh (fun p rs l hp hr hl j s rs' l' hj => hapm p rs l hp hr hl j s rs' l' (by omega)) hown hfix
   refine ⟨γf, g1, fun p hp => g2 p fun j p' hj => hp j p' (by omega), fun j y p hj ho hd hp => ?_, fun p rs hp hr => ?_⟩
   ·by_cases he : j = k
    ·subst he
     rw [hk] at ho
     cases ho
     rw [hdx] at hd
     cases hd
    ·exact g3 j y p (by omega) ho hd hp
   ·rcases g4 p rs hp hr with h1 | ⟨j, s, p', rs', h1, h2⟩
    ·exact .inl h1
    ·exact .inr ⟨j, s, p', rs', by omega, h2⟩
  ·rename_i hdx
   have hdx : mW x = false := by simpa using hdx
   split at h
   ·cases h
   ·rename_i i f hl0
    have hp0 := Bp hl0
    have hne0 : p0 ≠ [] := by rw [hp0]; simp
    generalize hq0 : p0.dropLast = q at *
    split at h
    ·cases h
    ·rename_i rows hq
     split at h
     ·cases h
     ·rename_i c0 hc
      have hat : at2 [outs] 0 k = some x := by simpa [at2] using hk
      obtain ⟨v, hv, hnew⟩ : ∃ v, Hdr w' S x (γ' [(0, k)]) v /\ ∀ l, q ≠ [] -> γc q = some l -> w'.cell? ⟨l.b, l.off + i * l.sz + f, none⟩ = some v := by
       by_cases hne : q = []
       ·obtain ⟨v, hv⟩ := hm.head 0 k x hat
        exact ⟨v, hv, fun _ hn => absurd hne hn⟩
       ·cases hl : γc q with
        | none =>
         have := hR.mem.loc q rows hne hq
         rw [hl] at this
         rw [(show rows = [] from this)] at hc
         simp [at2] at hc
        | some l =>
         obtain ⟨v, h1, h2⟩ := hh k x q i f l hk hdx (by rw [<- hp0]; exact hpk) hne hl
         exact ⟨v, h1, fun l' _ hl' => by cases hl'; exact h2⟩
      have hdet : Det w' S x (fun s => γ' ((0, k) :: s)) v := hm.det (q := []) rfl hat hv
      have hX : ∀ s, ay [outs] ((0, k) :: s) = cS x s := fun s => by have := ca (q := []) (mem := [outs]) rfl hat s; rwa [List.nil_append] at this
      have hapx : pk stc.m γc x (fun s => γ' ((0, k) :: s)) := fun p rs l s rs' l' hp hr hl hs hl' => hapm p rs l hp hr hl k s rs' l' (Nat.le_refl _) (by rw [hX]; exact hs) hl'
      have hput := hR.mem.rC hdet hapx hq hc (fun _ _ _ _ _ _ cells _ _ hh => ⟨cells, hh, rfl⟩) (fun _ _ _ _ _ _ _ _ _ _ _ => rfl) hnew (fun _ _ => rfl)
      have hR1 := hR.Oy hput hq hc (fun _ _ => rfl) (Nat.le_refl _) hR.fr (fun s rs l hs hl => hown k s rs l (by rw [hX]; exact hs) hl)
       (fun h1 h2 h3 => hfix k x i f hk h3 (by rw [hpk, hp0, h1]; rfl) h2)
      rw [<- hp0] at hR1
      have hA : ∀ j y q' i' f' l, outs[j]? = some y -> mW y = false -> pls[j]? = some (q' ++ [(i', f')]) -> q' ≠ [] -> nd γc q i f (fun s => γ' ((0, k) :: s)) q' = some l -> ∃ v, Hdr w' S y (γ' [(0, j)]) v /\ w'.cell? ⟨l.b, l.off + i' * l.sz + f', none⟩ = some v := by
       intro j y q' i' f' l hj hd hpj hne hl
       rw [bu (fun hpre => by
        have hpre' : p0 <+: q' ++ [(i', f')] := by rw [hp0]; exact hpre.trans (List.prefix_append _ _)
        have hjk := hap k j p0 _ hpk hpj hne0 (by simp) hpre'
        subst hjk
        rw [hpk] at hpj
        cases hpj
        have e1 := List.append_inj' hp0 rfl
        have := hpre.length_le
        rw [<- e1.1] at this
        simp at this
        omega)] at hl
       exact hh j y q' i' f' l hj hd hpj hne hl
      have hB : ∀ p rs l, p ≠ [] -> ay (bh stc.m q (bz rows i f x)) p = some rs -> nd γc q i f (fun s => γ' ((0, k) :: s)) p = some l -> ∀ j s rs' l', k + 1 <= j -> ay [outs] ((0, j) :: s) = some rs' -> γ' ((0, j) :: s) = some l' -> l.b ≠ l'.b := by
       intro p rs l hp hr hl j s rs' l' hj hs hl'
       rcases @fm stc.m rows q i f x c0 hq hc p rs hr with ⟨s2, rfl, hg⟩ | ⟨hn, rs0, hg0, _⟩
       ·rw [dM] at hl
        intro hb
        have := hm.inj ((0, k) :: s2) ((0, j) :: s) rs rs' l l' (by simp) (by simp) (by rw [hX]; exact hg) hs hl hl' hb
        simp at this
        omega
       ·rw [bu hn] at hl
        exact hapm p rs0 l hp hg0 hl j s rs' l' (by omega) hs hl'
      obtain ⟨γf, g1, g2, g3, g4⟩ := GK hm hap xs ps (k + 1) _ _ stf hx' hpl' hR1 h hA hB hown hfix
      refine ⟨γf, g1, fun p hp => ?_, fun j y p hj ho hd hpj => ?_, fun p rs hp hr => ?_⟩
      ·rw [g2 p fun j p' hj => hp j p' (by omega), bu (by rw [<- hp0]; exact hp k p0 (Nat.le_refl _) hpk hne0)]
      ·by_cases he : j = k
       ·subst he
        rw [hpk] at hpj
        obtain rfl : p0 = p := Option.some.inj hpj
        rw [g2 p0 fun j' p' hj' hp' hne hpre => by have := hap j' j p' p0 hp' hpk hne hne0 hpre; omega]
        rw [hp0]
        have := dM γc q i f (fun s => γ' ((0, j) :: s)) []
        exact this
       ·exact g3 j y p (by omega) ho hd hpj
      ·rcases g4 p rs hp hr with ⟨rs0, h1, h2⟩ | ⟨j, s, p', rs', h1, h2⟩
       ·rcases @fm stc.m rows q i f x c0 hq hc p rs0 h1 with ⟨s2, rfl, hg⟩ | ⟨hn, rs1, hg0, _⟩
        ·exact .inr ⟨k, s2, p0, rs0, Nat.le_refl _, hpk, by rw [hp0]; simp, by rw [hX]; exact hg, by rw [h2, dM]⟩
        ·exact .inl ⟨rs1, hg0, by rw [h2, bu hn]⟩
       ·exact .inr ⟨j, s, p', rs', by omega, h2⟩
end
end Go.Mv
namespace Go.Mv
open Go.RowKit
def T1.path : T1 -> Option Path
 | .pl p _ _ => some p
 | .so q i f _ => some (q ++ [(i, f)])
 | .sp p _ _ => some p
 | _ => none
section
variable {P : Program} {Ty : Types} {B : da} {S : Nat -> Prop} {γ : Path -> Option Loc} {st : St} {a : Act} {w : World}
theorem au.at {γ' : Path -> Option Loc} : ∀ {t : T1} {x : Value}, au w S γ t x -> (∀ p, t.path = some p -> γ' p = γ p) -> au w S γ' t x
 | .unk, _, _, _ => trivial
 | .c _, _, h, _ => h
 | .fp _ _, _, h, _ => h
 | .pl p i f, x, h, hp => by
  show ∃ l, γ' p = some l /\ _
  rw [hp p rfl]
  exact h
 | .so q i f n, x, h, hp => by
  show (∃ l, γ' (q ++ [(i, f)]) = some l /\ _) \/ (γ' (q ++ [(i, f)]) = none /\ _)
  rw [hp _ rfl]
  exact h
 | .sp p lo n, x, h, hp => by
  show (∃ l cap, γ' p = some l /\ _) \/ _
  rw [hp p rfl]
  exact h
def T1.As (ps : List Path) (t : T1) : T1 :=
 match t.path with
 | none => t
 | some p => if ps.any (fun p' => !p'.isEmpty && eV p' p) then .unk else t
def VK (ps : List Path) (outs : List C) (t : T1) : Bool :=
 match t.path with
 | none => false
 | some p => (ps.zip outs).any fun x => !x.1.isEmpty && !mW x.2 && (eV x.1 p && eV p x.1 && x.1 == p)
def T1.again (ps : List Path) (outs : List C) (t : T1) : T1 := if VK ps outs t then t else t.As ps
def St.Lr (st : St) (ps : List Path) (outs : List C) (m : Rows) : St := { t := st.t.map (TV.bX (T1.again ps outs)), m := m }
theorem T1.Fv {γ' : Path -> Option Loc} {ps : List Path} {t : T1} {x : Value} (h : au w S γ t x) (hγ : ∀ p, (∀ p' ∈ ps, p' ≠ [] -> ¬ p' <+: p) -> γ' p = γ p) : au w S γ' (t.As ps) x := by
 unfold T1.As
 split
 ·rename_i hp
  exact h.at fun p hp' => by rw [hp] at hp'; cases hp'
 ·rename_i p hp
  split
  ·trivial
  ·rename_i hn
   refine h.at fun p1 hp1 => ?_
   rw [hp] at hp1
   cases hp1
   refine hγ p fun p' hp' hne hpre => hn ?_
   rw [List.any_eq_true]
   refine ⟨p', hp', ?_⟩
   rw [eW hpre]
   cases p' with
   | nil => exact absurd rfl hne
   | cons y q => rfl
def zQ (m : Rows) (row : List C) (ps : List Path) : Prop :=
 row.length = ps.length /\ ∀ (j : Nat) (c : C) (p : Path), row[j]? = some c -> ps[j]? = some p -> (p = [] /\ ∃ sz, c = .sl sz []) \/ ∃ q i f rows, p = q ++ [(i, f)] /\ ay m q = some rows /\ at2 rows i f = some c
def jV (γ : Path -> Option Loc) (ps : List Path) : Path -> Option Loc
 | (0, j) :: s => (ps[j]?).bind fun p => if p.isEmpty then none else γ (p ++ s)
 | _ => none
def HY (ps : List Path) : Bool := ig (ps.filter fun p => !p.isEmpty)
def QR (ps : List Path) : Prop := ∀ (j j' : Nat) (p p' : Path), ps[j]? = some p -> ps[j']? = some p' -> p ≠ [] -> p' ≠ [] -> p <+: p' -> j = j'
theorem zZ : ∀ {ps : List Path}, HY ps = true -> QR ps
 | [], _, j, j', p, p', h, _, _, _, _ => by simp at h
 | x :: ps, h, j, j', p, p', hj, hj', hp0, hp0', hp => by
  have hmem : ∀ (j : Nat) (p : Path), ps[j]? = some p -> p ≠ [] -> p ∈ ps.filter fun p => !p.isEmpty := fun j p hj hne => by
   rw [List.mem_filter]
   exact ⟨List.mem_of_getElem? hj, by cases p <;> simp_all⟩
  have ht : HY ps = true := by
   unfold HY at h ⊢
   rw [List.filter_cons] at h
   split at h
   ·simp only [ig, Bool.and_eq_true] at h; exact h.2
   ·exact h
  have hx : x ≠ [] -> ∀ p ∈ ps.filter (fun p => !p.isEmpty), eV x p = false /\ eV p x = false := fun hne p hp => by
   unfold HY at h
   rw [List.filter_cons, if_pos (by cases x <;> simp_all)] at h
   simp only [ig, Bool.and_eq_true, List.all_eq_true, Bool.not_eq_true'] at h
   exact h.1 p hp
  cases j with
  | zero =>
   simp at hj
   subst hj
   cases j' with
   | zero => rfl
   | succ j' =>
    simp at hj'
    have := (hx hp0 p' (hmem j' p' hj' hp0')).1
    rw [eW hp] at this
    cases this
  | succ j =>
   simp at hj
   cases j' with
   | zero =>
    simp at hj'
    subst hj'
    have := (hx hp0' p (hmem j p hj hp0)).2
    rw [eW hp] at this
    cases this
   | succ j' =>
    simp at hj'
    rw [zZ ht j j' p p' hj hj' hp0 hp0' hp]
theorem jo {m : Rows} {row : List C} {ps : List Path} (hH : zQ m row ps) {q : Path} {rows : Rows} (hq : q ≠ []) (h : ay [row] q = some rows) :
  ∃ j s p, q = (0, j) :: s /\ ps[j]? = some p /\ ((p = [] /\ rows = []) \/ (p ≠ [] /\ ay m (p ++ s) = some rows)) := by
 cases q with
 | nil => exact absurd rfl hq
 | cons x s =>
  obtain ⟨i, j⟩ := x
  simp only [ay] at h
  cases hc : at2 [row] i j with
  | none => rw [hc] at h; cases h
  | some c =>
   obtain ⟨rfl, hrow⟩ := wv hc
   have hj : j < ps.length := by rw [<- hH.1]; exact (List.getElem?_eq_some_iff.1 hrow).1
   refine ⟨j, s, ps[j], rfl, List.getElem?_eq_getElem hj, ?_⟩
   rw [hc] at h
   rcases hH.2 j c _ hrow (List.getElem?_eq_getElem hj) with ⟨he, sz, rfl⟩ | ⟨q', i', f', rows', he, hq', hc'⟩
   ·refine .inl ⟨he, ?_⟩
    simp only [Option.bind_some, C.rows] at h
    cases s with
    | nil => simpa [ay] using h.symm
    | cons y s => obtain ⟨a, b⟩ := y; simp [ay, at2] at h
   ·refine .inr ⟨by rw [he]; simp, ?_⟩
    rw [he, List.append_assoc, List.singleton_append, ca hq' hc']
    exact h
theorem NI {ps : List Path} {j : Nat} {s p : Path} (hp : ps[j]? = some p) : jV γ ps ((0, j) :: s) = if p.isEmpty then none else γ (p ++ s) := by simp [jV, hp]
theorem iR {ps : List Path} {j : Nat} {s p : Path} (hp : ps[j]? = some p) (hne : p ≠ []) : jV γ ps ((0, j) :: s) = γ (p ++ s) := by
 rw [NI hp, if_neg (by cases p <;> simp_all)]
theorem kN {ps : List Path} {j : Nat} {s p : Path} (hp : ps[j]? = some p) (he : p = []) : jV γ ps ((0, j) :: s) = none := by rw [NI hp, he]; rfl
theorem bf.jV {m : Rows} {row : List C} {ps : List Path} (h : bf w S m γ) (hH : zQ m row ps) (hap : QR ps) : bf w S [row] (jV γ ps) := by
 refine ⟨fun q rows hq hr => ?_, fun q rows l i f c hq hr hl hc => ?_, fun i f c hc => ?_, fun q q' rows rows' l l' hq hq' hr hr' hl hl' hb => ?_⟩
 ·obtain ⟨j, s, p, rfl, hp, ⟨he, rfl⟩ | ⟨hne, hr⟩⟩ := jo hH hq hr
  ·rw [kN hp he]; exact (rfl : ([] : Rows) = [])
  ·rw [iR hp hne]; exact h.loc _ rows (by simp [hne]) hr
 ·obtain ⟨j, s, p, rfl, hp, ⟨he, rfl⟩ | ⟨hne, hr⟩⟩ := jo hH hq hr
  ·rw [kN hp he] at hl; cases hl
  ·rw [iR hp hne] at hl
   obtain ⟨x, h1, h2⟩ := h.cell _ rows l i f c (by simp [hne]) hr hl hc
   refine ⟨x, h1, ?_⟩
   rw [List.cons_append, iR hp hne, <- List.append_assoc]
   exact h2
 ·obtain ⟨rfl, hrow⟩ := wv hc
  have hj : f < ps.length := by rw [<- hH.1]; exact (List.getElem?_eq_some_iff.1 hrow).1
  rcases hH.2 f c _ hrow (List.getElem?_eq_getElem hj) with ⟨he, sz, rfl⟩ | ⟨q', i', f', rows', he, hq', hc'⟩
  ·rw [kN (List.getElem?_eq_getElem hj) he]; exact ⟨.slice none 0 0, rfl, rfl⟩
  ·obtain ⟨y, hy⟩ := h.mC hq' hc'
   refine ⟨y, ?_⟩
   rw [iR (List.getElem?_eq_getElem hj) (by rw [he]; simp), he, List.append_nil]
   exact hy
 ·obtain ⟨j, s, p, rfl, hp, ⟨he, rfl⟩ | ⟨hne, hr⟩⟩ := jo hH hq hr
  ·rw [kN hp he] at hl; cases hl
  ·obtain ⟨j', s', p', rfl, hp', ⟨he', rfl⟩ | ⟨hne', hr'⟩⟩ := jo hH hq' hr'
   ·rw [kN hp' he'] at hl'; cases hl'
   ·rw [iR hp hne] at hl
    rw [iR hp' hne'] at hl'
    have he := h.inj _ _ rows rows' l l' (by simp [hne]) (by simp [hne']) hr hr' hl hl' hb
    have hpre : p <+: p' \/ p' <+: p := List.prefix_or_prefix_of_prefix (List.prefix_append p s) (he ▸ List.prefix_append p' s')
    have hjj : j = j' := by
     rcases hpre with h1 | h1
     ·exact hap j j' p p' hp hp' hne hne' h1
     ·exact (hap j' j p' p hp' hp hne' hne h1).symm
    subst hjj
    rw [hp] at hp'
    cases hp'
    rw [List.append_cancel_left he]
inductive GV1 (ps : List Path) : T1 -> T1 -> Prop
 | same {t : T1} : sR t = true -> GV1 ps t t
 | so (k : Nat) {q : Path} {i f n : Nat} : ps[k]? = some (q ++ [(i, f)]) -> GV1 ps (.so q i f n) (.so [] 0 k n)
 | pl (k : Nat) {p : Path} : ps[k]? = some p -> p.isEmpty = false -> GV1 ps (.pl p 0 0) (.pl [(0, k)] 0 0)
 | nil (k : Nat) : ps[k]? = some [] -> GV1 ps (.c (.v (.slice none 0 0))) (.so [] 0 k 0)
inductive GVL (ps : List Path) : List T1 -> List T1 -> Prop
 | nil : GVL ps [] []
 | cons {t t' : T1} {l l' : List T1} : GV1 ps t t' -> GVL ps l l' -> GVL ps (t :: l) (t' :: l')
inductive GV (ps : List Path) : TV -> TV -> Prop
 | one {t t' : T1} : GV1 ps t t' -> GV ps (.one t) (.one t')
 | agg {l l' : List T1} : GVL ps l l' -> GV ps (.agg l) (.agg l')
inductive GVs (ps : List Path) : List TV -> List TV -> Prop
 | nil : GVs ps [] []
 | cons {t t' : TV} {l l' : List TV} : GV ps t t' -> GVs ps l l' -> GVs ps (t :: l) (t' :: l')
theorem GV1.val {ps : List Path} {t t' : T1} (h : GV1 ps t t') {x : Value} (hx : au w S γ t x) : au w S (jV γ ps) t' x := by
 cases h with
 | same hc => exact oo hc hx
 | @so k q i f n hk =>
  have e : jV γ ps ([] ++ [(0, k)]) = γ (q ++ [(i, f)]) := by rw [List.nil_append, iR hk (by simp), List.append_nil]
  show (∃ l, jV γ ps ([] ++ [(0, k)]) = some l /\ _) \/ (jV γ ps ([] ++ [(0, k)]) = none /\ _)
  rw [e]
  exact hx
 | @pl k p hk hne =>
  obtain ⟨l, hl, hx⟩ := hx
  exact ⟨l, by rw [iR hk (by intro e; rw [e] at hne; cases hne), List.append_nil]; exact hl, hx⟩
 | nil k hk =>
  have := jC (γ := γ) (show aD w S γ (.one (.c (.v _))) x from hx)
  exact .inr ⟨by rw [List.nil_append, kN hk rfl], rfl, this⟩
theorem GVL.val {ps : List Path} : ∀ {l l' : List T1} {xs : List Value}, GVL ps l l' -> cK (au w S γ) l xs -> cK (au w S (jV γ ps)) l' xs
 | _, _, xs, .nil, h => by
  have : xs = [] := List.eq_nil_of_length_eq_zero (by rw [<- h.1]; rfl)
  subst this
  exact .nil
 | _, _, xs, .cons h1 h2, h => by
  obtain ⟨x, xs', rfl, g1, g2⟩ := h.dQ
  exact .cons (h1.val g1) (GVL.val h2 g2)
theorem GV.val {ps : List Path} {t t' : TV} (h : GV ps t t') {x : Value} (hx : aD w S γ t x) : aD w S (jV γ ps) t' x := by
 cases h with
 | one h => exact h.val hx
 | agg h => obtain ⟨xs, rfl, hl⟩ := hx; exact ⟨xs, rfl, h.val hl⟩
theorem GVs.val {ps : List Path} : ∀ {l l' : List TV} {xs : List Value}, GVs ps l l' -> cK (aD w S γ) l xs -> cK (aD w S (jV γ ps)) l' xs
 | _, _, xs, .nil, h => by
  have : xs = [] := List.eq_nil_of_length_eq_zero (by rw [<- h.1]; rfl)
  subst this
  exact .nil
 | _, _, xs, .cons h1 h2, h => by
  obtain ⟨x, xs', rfl, g1, g2⟩ := h.dQ
  exact .cons (h1.val g1) (GVs.val h2 g2)
theorem Rel.Yp {w' : World} {ins : Rows} {γi : Path -> Option Loc} {S' : Nat -> Prop} (hR : Rel B S γ st a w) (hf : Frame (kJ w S ins γi) w') (h1 : ∀ b, S b -> S' b) (h2 : ∀ b, S' b -> S b \/ w.heap.size <= b) (h3 : ∀ b, S' b -> b < w'.heap.size)
  (hS : ∀ b, S b -> ¬ yR ins γi b) (hd : ∀ p rs l, p ≠ [] -> ay st.m p = some rs -> γ p = some l -> ¬ yR ins γi l.b)
  (hB : ∀ b, yR ins γi b -> B.w.heap.size <= b \/ ∀ o, B.F b o) : Rel B S' γ st a w' := by
 have hall : ∀ b, b < w.heap.size -> ¬ yR ins γi b -> w'.heap[b]? = w.heap[b]? := fun b hb hn => hf.all b hb fun o ho => hn ho
 have hSw : ∀ b, S b -> w'.heap[b]? = w.heap[b]? := fun b hb => hall b (hR.lt b hb) (hS b hb)
 refine ⟨fun b hb => h1 b (hR.sS b hb), h3, hR.mem.frame h1 hSw fun p rs l hp hr hl => ?_, fun k t hk => aD.imp (fun _ _ ht => au.frame h1 hSw ht) (hR.tv k t hk), hR.size, hR.msize, hR.defers, hR.own, hR.fix, (hR.WJ hf hS hd hB).fr⟩
 have := hR.mem.loc p rs hp hr
 rw [hl] at this
 obtain ⟨g1, _, _, cells, e, lo, hi, h4, _⟩ := this
 refine ⟨hall _ (bT h4) (hd p rs l hp hr hl), fun hs => ?_⟩
 rcases h2 _ hs with k1 | k1
 ·exact g1 k1
 ·have := bT h4; omega
theorem Rel.setRow {γr : Path -> Option Loc} {res : TV} {row : List C} {v : Value} {d : Nat} (hR : Rel B S γ st a w) (hm : bf w S [row] γr) (hv : aD w S γr res v) (hown : ∀ q rows l, q ≠ [] -> ay [row] q = some rows -> γr q = some l -> yN B l)
  (hap : ∀ q rows l q' rows' l', q ≠ [] -> ay st.m q = some rows -> γ q = some l -> q' ≠ [] -> ay [row] q' = some rows' -> γr q' = some l' -> l.b ≠ l'.b) (hnp : B.np <= d) (hd : d < st.m.length) :
  Rel B S (fE γ γr d) (st.dd d res row) (a.put (some d) v) w := by
 have hmem := hR.mem.setRow hm.pad hd fun q rows l q' rows' l' hq hr hl hq' hr' hl' => hap q rows l q' rows' l' hq hr hl hq' (mf hq' hr').2 hl'
 refine ⟨hR.sS, hR.lt, hmem, fun k t hk => ?_, by simp [St.dd, Act.put, hR.size], by simp [St.dd, hR.msize], hR.defers, fun q rows l hq hr hl => ?_, fun i f c hi hc hrows => ?_, hR.fr⟩
 ·simp only [St.dd, Act.put] at hk ⊢
  by_cases hkd : d = k
  ·subst hkd
   have hlen : d < (st.t.map (TV.bX (T1.sH d))).length := by have := (List.getElem?_eq_some_iff.1 hk).1; simpa using this
   rw [List.getElem?_set_self hlen] at hk
   cases hk
   have : d < a.tmps.size := by rw [<- hR.size]; simpa using hlen
   simp only [Array.getD_eq_getD_getElem?, Array.getElem?_setIfInBounds_self_of_lt this, Option.getD_some]
   exact aD.bX (fun _ _ ht => au.shift ht) hv
  ·rw [List.getElem?_set_ne hkd] at hk
   obtain ⟨t0, ht0, rfl⟩ := ax hk
   have := hR.tv k t0 ht0
   simp only [Array.getD_eq_getD_getElem?] at this ⊢
   rw [Array.getElem?_setIfInBounds_ne hkd]
   exact aD.bX (fun _ _ ht => au.sH ht) this
 ·simp only [St.dd] at hr
  rw [ov hd hq] at hr
  unfold fE at hl
  split at hr
  ·rename_i h1
   rw [if_pos h1] at hl
   exact hown _ rows l (eZ h1) (mf (eZ h1) hr).2 hl
  ·rename_i h1
   rw [if_neg h1] at hl
   exact hR.own q rows l hq hr hl
 ·simp only [St.dd] at hc
  have hid : i ≠ d := by omega
  rw [Ad hd, if_neg hid] at hc
  have e : fE γ γr d [(i, f)] = γ [(i, f)] := by simp [fE, bJ, hid]
  rw [e]
  exact hR.fix i f c hi hc hrows
theorem Bo : ∀ (ps : List Path) (st0 stk : St), Bn st0 ps = some stk -> stk.m.length = st0.m.length /\ stk.t.length = st0.t.length
 | [], st0, stk, h => by cases h; exact ⟨rfl, rfl⟩
 | p :: ps, st0, stk, h => by
  simp only [Bn] at h
  split at h
  ·exact Bo ps _ stk h
  ·split at h
   ·cases h
   ·split at h
    ·cases h
    ·rename_i rows hq
     split at h
     ·cases h
     ·obtain ⟨h1, h2⟩ := Bo ps _ stk h
      simp only [List.length_map] at h2
      rw [eg st0.m _ rows _ hq (fF _ _ _ _)] at h1
      exact ⟨h1, h2⟩
theorem GJ : ∀ (ps : List Path) (xs : List C) (st0 stk : St), Oz st0 ps xs = some stk -> stk.m.length = st0.m.length /\ stk.t.length = st0.t.length
 | _, [], st0, stk, h => by simp only [Oz, Option.some.injEq] at h; subst h; exact ⟨rfl, rfl⟩
 | [], _ :: _, st0, stk, h => by simp [Oz] at h
 | p :: ps, x :: xs, st0, stk, h => by
  simp only [Oz] at h
  split at h
  ·exact GJ ps xs _ stk h
  ·split at h
   ·cases h
   ·split at h
    ·cases h
    ·rename_i rows hq
     split at h
     ·cases h
     ·obtain ⟨h1, h2⟩ := GJ ps xs _ stk h
      simp only [List.length_map] at h2
      rw [eg st0.m _ rows _ hq (fF _ _ _ _)] at h1
      exact ⟨h1, h2⟩
theorem MM {w' : World} {S' : Nat -> Prop} {c x : C} {l : Option Loc} {v y : Value} (h : OH c x) (hv : Hdr w S c l v) (hy : Hdr w' S' x l y) : y = v := by
 cases c with
 | sl sz r =>
  cases x with
  | sl sz' r' =>
   have hl : r'.length = r.length := h
   cases l with
   | none => rw [hy.2, hv.2]
   | some l => rw [hy.1, hv.1, hl]
  | _ => exact h.elim
 | bx r =>
  cases x with
  | bx r' =>
   cases l with
   | none => exact hv.elim
   | some l => exact (show y = _ from hy).trans (show v = _ from hv).symm
  | _ => exact h.elim
 | _ => cases x <;> exact h.elim
theorem Yq (hR : Rel B S γ st a w) (hSn : ∀ b, S b -> B.S b \/ B.w.heap.size <= b) {g : FuncId} {A A' : List TV} {vals : List Value} {cs outs row : List C} {res : TV} {ps : List Path} {stk stf : St} {d : Nat} (hC : lA P g cs A' outs res row)
  (hv : cK (aD w S γ) A vals) (hA : GVs ps A A') (hH : zQ st.m cs ps) (hap : QR ps) (hk : Bn st ps = some stk) (hp : Oz stk ps outs = some stf) (hh : zR cs outs)
  (hF : ∀ b o o', B.F b o -> B.F b o') (hnp : B.np <= d) (hd : d < st.m.length) :
  Calls P g vals.toArray w fun e w' => ∃ v, e = .returned v /\ lz B ((st.Lr ps outs stf.m).dd d res row) (a.put (some d) v) w' := by
 refine (hC w S (jV γ ps) vals hR.lt (hR.mem.jV hH hap) (hA.val hv)).mono fun e w' ⟨v, he, hf, S', γ', γr, hS1, hS2, hS3, hm, hmr, hres, hfx, hown, hownr, hdisj⟩ => ⟨v, he, ?_⟩
 obtain ⟨γk, hRk, hgk, hkp⟩ := uX ps γ st stk hR hk
 have hin : ∀ b, yR [cs] (jV γ ps) b -> ∃ p s rs l, p ∈ ps /\ p ≠ [] /\ ay st.m (p ++ s) = some rs /\ γ (p ++ s) = some l /\ l.b = b := fun b hb => by
  obtain ⟨q, rs, l, hq0, hr, hl, rfl⟩ := hb
  obtain ⟨j, s, p, rfl, hp, ⟨he, rfl⟩ | ⟨hne, hr⟩⟩ := jo hH hq0 hr
  ·rw [kN hp he] at hl; cases hl
  ·rw [iR hp hne] at hl
   exact ⟨p, s, rs, l, List.mem_of_getElem? hp, hne, hr, hl, rfl⟩
 have hS0 : ∀ b, S b -> ¬ yR [cs] (jV γ ps) b := fun b hb ho => by
  obtain ⟨p, s, rs, l, _, hne, h3, h4, rfl⟩ := hin b ho
  have := hR.mem.loc _ rs (by simp [hne]) h3
  rw [h4] at this
  exact this.1 hb
 have hkg : ∀ p rs, p ≠ [] -> ay stk.m p = some rs -> γk p = γ p := fun p rs hp0 hr => hgk p (hkp p rs hp0 hr).choose_spec.2
 have hdis : ∀ p rs l, p ≠ [] -> ay stk.m p = some rs -> γk p = some l -> ¬ yR [cs] (jV γ ps) l.b := fun p rs l hp0 hr hl ho => by
  obtain ⟨p1, s, rs1, l1, h1, h2, h3, h4, h5⟩ := hin l.b ho
  obtain ⟨rs0, g1, g3⟩ := hkp p rs hp0 hr
  rw [hkg p rs hp0 hr] at hl
  have := hR.mem.inj p _ rs0 rs1 l l1 hp0 (by simp [h2]) g1 h3 hl h4 h5.symm
  exact g3 p1 h1 h2 (this ▸ ⟨s, rfl⟩)
 have hBw : ∀ b, yR [cs] (jV γ ps) b -> B.w.heap.size <= b \/ ∀ o, B.F b o := fun b ho => by
  obtain ⟨p, s, rs, l, _, h2, h3, h4, rfl⟩ := hin b ho
  rcases hR.own _ rs l (by simp [h2]) h3 h4 with h | ⟨⟨o, ho⟩, _⟩
  ·exact .inl h
  ·exact .inr fun o' => hF _ o o' ho
 have hR1 : Rel B S' γk stk a w' := hRk.Yp hf hS1 hS2 hS3 hS0 hdis hBw
 have hnewown : ∀ l : Loc, yN (kJ w S [cs] (jV γ ps)) l -> w.heap.size <= l.b \/ yR [cs] (jV γ ps) l.b := fun l h => by
  rcases h with h | ⟨⟨o, ho⟩, _⟩
  ·exact .inl h
  ·exact .inr ho
 have hownB : ∀ l : Loc, yN (kJ w S [cs] (jV γ ps)) l -> yN B l := fun l h => by
  rcases hnewown l h with h | h
  ·exact .inl (Nat.le_trans hR.fr.size h)
  ·rcases hBw _ h with h1 | h1
   ·exact .inl h1
   ·exact .inr ⟨⟨0, h1 0⟩, fun o _ _ => h1 o⟩
 have hold : ∀ p rs l, p ≠ [] -> ay stk.m p = some rs -> γk p = some l -> ∀ l' : Loc, yN (kJ w S [cs] (jV γ ps)) l' -> l.b ≠ l'.b := fun p rs l hp0 hr hl l' ho hb => by
  rcases hnewown l' ho with h | h
  ·have := hRk.mem.loc p rs hp0 hr
   rw [hl] at this
   obtain ⟨_, _, _, cells, e, lo, hi, h4, _⟩ := this
   have := bT h4
   omega
  ·exact hdis p rs l hp0 hr hl (hb ▸ h)
 have hapl : ∀ (j j' : Nat) (p p' : Path), ps[j]? = some p -> ps[j']? = some p' -> p ≠ [] -> p' ≠ [] -> p <+: p' -> j = j' := hap
 have hsameg : ∀ j x p, outs[j]? = some x -> mW x = false -> ps[j]? = some p -> p ≠ [] /\ γ' [(0, j)] = γ p /\ ∃ c, cs[j]? = some c /\ OH c x := fun j x p hj hdx hpj => by
  obtain ⟨c, hc, hsame⟩ := hh.get hj hdx
  obtain ⟨r1, r2, r3⟩ := tt hsame
  have hγ := hfx j x hj r2
  have hne : p ≠ [] := fun he => by
   have hdx' := hp
   subst he
   have key : ∀ (pl : List Path) (xl : List C) (stA stB : St) (j : Nat), Oz stA pl xl = some stB -> xl[j]? = some x -> pl[j]? = some [] -> False := by
    intro pl
    induction pl with
    | nil => intro xl stA stB j h1 h2 h3; simp at h3
    | cons p0 pl ih =>
     intro xl stA stB j h1 h2 h3
     cases xl with
     | nil => simp at h2
     | cons x0 xl =>
      simp only [Oz] at h1
      cases j with
      | zero =>
       simp at h2 h3
       subst h2 h3
       rw [hdx] at h1
       simp at h1
      | succ j =>
       simp at h2 h3
       split at h1
       ·exact ih xl _ stB j h1 h2 h3
       ·split at h1
        ·cases h1
        ·split at h1
         ·cases h1
         ·split at h1
          ·cases h1
          ·exact ih xl _ stB j h1 h2 h3
   exact key ps outs stk stf j hp hj hpj
  refine ⟨hne, ?_, c, hc, hsame⟩
  rw [hγ, iR hpj hne, List.append_nil]
 obtain ⟨γf, hRf, hf1, hf2, hf3⟩ := GK hm hapl outs ps 0 γk stk stf rfl rfl hR1 hp
  (fun j x q i f l hj hdx hpj hne hl => by
   obtain ⟨hpne, hγ, c, hc, hsame⟩ := hsameg j x _ hj hdx hpj
   obtain ⟨r1, r2, r3⟩ := tt hsame
   rcases hH.2 j c _ hc hpj with ⟨he, _⟩ | ⟨q', i', f', rows, he, hq, hat⟩
   ·exact absurd he hpne
   obtain ⟨rfl, e2⟩ := List.append_inj' he rfl
   cases e2
   have hlq : γ q = some l := by
    rw [<- hgk q fun p' hp' hne' hpre => ?_]
    ·exact hl
    ·obtain ⟨j', hj', rfl⟩ := List.getElem_of_mem hp'
     have := hap j' j _ _ (List.getElem?_eq_getElem hj') hpj hne' hpne (hpre.trans (List.prefix_append _ _))
     subst this
     rw [List.getElem?_eq_getElem hj'] at hpj
     have e := Option.some.inj hpj
     have := hpre.length_le
     rw [e] at this
     simp at this
     omega
   obtain ⟨v0, h1, h2⟩ := hR.mem.cell q rows l i f c hne hq hlq hat
   have hato : at2 [outs] 0 j = some x := by simpa [at2] using hj
   obtain ⟨y, hy⟩ := hm.head 0 j x hato
   rw [hγ] at hy
   have hyv := MM hsame h2 hy
   subst hyv
   refine ⟨y, by rw [hγ]; exact hy, ?_⟩
   have hnl : ¬ yR [cs] (jV γ ps) l.b := fun ho => by
    obtain ⟨p1, s, rs1, l1, g1, g2, h3, h4, h5⟩ := hin l.b ho
    have := hR.mem.inj q _ rows rs1 l l1 hne (by simp [g2]) hq h3 hlq h4 h5.symm
    obtain ⟨j', hj', rfl⟩ := List.getElem_of_mem g1
    have hpre : ps[j'] <+: q ++ [(i, f)] := by rw [this]; exact (List.prefix_append _ _).trans (List.prefix_append _ _)
    have hjj := hap j' j _ _ (List.getElem?_eq_getElem hj') hpj g2 hpne hpre
    subst hjj
    rw [List.getElem?_eq_getElem hj'] at hpj
    have e := Option.some.inj hpj
    rw [e] at this
    have := congrArg List.length this
    simp at this
   have hlt : l.b < w.heap.size := by
    have := hR.mem.loc q rows hne hq
    rw [hlq] at this
    obtain ⟨_, _, _, cells, e, lo, hi, h4, _⟩ := this
    exact bT h4
   rw [World.cell?_of_block (w := w) (hf.all l.b hlt fun o ho => hnl ho)]
   exact h1)
  (fun p rs l hp0 hr hl j s rs' l' _ hs' hl' => hold p rs l hp0 hr hl l' (hown _ rs' l' (by simp) hs' hl'))
  (fun j s rs' l' hs' hl' => hownB l' (hown _ rs' l' (by simp) hs' hl'))
  (fun j x i f hj hx hpj hi => by
   have hdx : mW x = false := by
    cases hd : mW x with
    | false => rfl
    | true => exact absurd (LD hd) hx
   obtain ⟨hpne, hγ, c, hc, hsame⟩ := hsameg j x _ hj hdx hpj
   obtain ⟨r1, r2, r3⟩ := tt hsame
   rcases hH.2 j c _ hc hpj with ⟨he, _⟩ | ⟨q', i', f', rows, he, hq, hat⟩
   ·exact absurd he hpne
   have : q' = [] := by
    have := congrArg List.length he
    simp at this
    exact this
   subst this
   simp only [List.nil_append, List.cons.injEq, Prod.mk.injEq, and_true] at he
   obtain ⟨rfl, rfl⟩ := he
   simp only [ay, Option.some.injEq] at hq
   subst hq
   rw [hγ]
   exact hR.fix i f c hi hat r1)
 have hlen : stf.m.length = st.m.length := by rw [(GJ ps outs stk stf hp).1, (Bo ps st stk hk).1]
 have hRb : Rel B S' γf (st.Lr ps outs stf.m) a w' := by
  refine ⟨hRf.sS, hRf.lt, hRf.mem, fun k t hkt => ?_, by simp [St.Lr, hR.size], by simp [St.Lr, hlen, hR.msize], hRf.defers, hRf.own, hRf.fix, hRf.fr⟩
  simp only [St.Lr] at hkt
  obtain ⟨t0, ht0, rfl⟩ := ax hkt
  have hSw : ∀ b, S b -> w'.heap[b]? = w.heap[b]? := fun b hb => hf.all b (hR.lt b hb) fun o ho => hS0 b hb ho
  refine aD.bX (fun t x ht => ?_) (hR.tv k t0 ht0)
  have ht := au.frame hS1 hSw ht
  unfold T1.again
  split
  ·rename_i hex
   unfold VK at hex
   split at hex
   ·cases hex
   ·rename_i p hpt
    rw [List.any_eq_true] at hex
    obtain ⟨⟨p1, x1⟩, hz, hcond⟩ := hex
    simp only [Bool.and_eq_true, Bool.not_eq_true', beq_iff_eq] at hcond
    obtain ⟨⟨hne, hdx⟩, _, rfl⟩ := hcond
    obtain ⟨j, hj, he⟩ := List.getElem_of_mem hz
    rw [List.getElem_zip] at he
    have hj1 : j < ps.length := by simp at hj; omega
    have hj2 : j < outs.length := by simp at hj; omega
    have e1 : ps[j] = p1 := (Prod.mk.inj he).1
    have e2 : outs[j] = x1 := (Prod.mk.inj he).2
    have hpj : ps[j]? = some p1 := by rw [List.getElem?_eq_getElem hj1, e1]
    have hoj : outs[j]? = some x1 := by rw [List.getElem?_eq_getElem hj2, e2]
    refine ht.at fun p2 hp2 => ?_
    rw [hpt] at hp2
    cases hp2
    rw [hf2 j x1 p1 (Nat.zero_le _) hoj hdx hpj, (hsameg j x1 p1 hoj hdx hpj).2.1]
  ·refine T1.Fv ht fun p hpn => ?_
   rw [hf1 p fun j p' _ hpj hne => hpn p' (List.mem_of_getElem? hpj) hne, hgk p hpn]
 refine ⟨S', fE γf γr d, hRb.setRow hmr hres (fun q rows l hq hr hl => hownB l (hownr q rows l hq hr hl)) (fun q rows l q' rows' l' hq hr hl hq' hr' hl' => ?_) hnp (by simp only [St.Lr]; rw [hlen]; exact hd), fun b hb => ?_⟩
 ·rcases hf3 q rows hq hr with ⟨rs0, h1, h2⟩ | ⟨j, s, p', rs', _, h1, h2, h3, h4⟩
  ·rw [h2] at hl
   exact hold q rs0 l hq h1 hl l' (hownr q' rows' l' hq' hr' hl')
  ·rw [h4] at hl
   exact hdisj _ rs' l q' rows' l' (by simp) h3 hl hq' hr' hl'
 ·rcases hS2 b hb with h | h
  ·exact hSn b h
  ·exact .inr (Nat.le_trans hR.fr.size h)
variable {Q : AQ} {ops : Array Oper}
end
end Go.Mv
namespace Go.Mv
open Go.RowKit
def Ry (Ty : Types) (st : St) (rs : List ResultVar) : Option (List C × TV × List C × Obs) :=
 match Ve Ty st rs with
 | none => none
 | some ts => match MW ts with
  | none => none
  | some t => match MB st.m t with
   | none => none
   | some (res, row, ps, ob) => if ig ps then match ve st.m ps with
    | none => none
    | some outs => some (outs, res, row, ob)
    else none
theorem Zi {Ty : Types} {st : St} {rs : List ResultVar} {outs outs' : List C} {res res' : TV} {row row' : List C} {ob : Obs} (h : Ry Ty st rs = some (outs', res', row', ob)) (ho : nR ob) (e1 : outs' = outs) (e2 : res' = res) (e3 : row' = row) :
  Pn Ty st rs = some (outs, res, row) := by
 subst e1 e2 e3
 unfold Ry at h
 unfold Pn
 cases hts : Ve Ty st rs with
 | none => rw [hts] at h; cases h
 | some ts =>
  rw [hts] at h
  dsimp only at h ⊢
  cases ht : MW ts with
  | none => rw [ht] at h; cases h
  | some t =>
   rw [ht] at h
   dsimp only at h ⊢
   cases ho1 : MB st.m t with
   | none => rw [ho1] at h; cases h
   | some y =>
    obtain ⟨r1, w1, ps, ob1⟩ := y
    rw [ho1] at h
    dsimp only at h ⊢
    by_cases hap : ig ps = true
    ·rw [if_pos hap] at h
     cases hos : ve st.m ps with
     | none => rw [hos] at h; cases h
     | some os =>
      rw [hos] at h
      cases h
      rw [Oj ho1 ho]
      dsimp only
      rw [if_pos hap, hos]
    ·rw [if_neg hap] at h; cases h
def ox (m : Rows) : List Path -> List Nat -> Option (List C)
 | [], _ => some []
 | _ :: _, [] => none
 | p :: ps, sz :: szs => if p.isEmpty then (ox m ps szs).map (C.sl sz [] :: ·) else match p.getLast? with
  | none => none
  | some (i, f) => match ay m p.dropLast with
   | none => none
   | some rows => match at2 rows i f with
    | none => none
    | some c => (ox m ps szs).map (c :: ·)
theorem DO {m : Rows} : ∀ {ps : List Path} {szs : List Nat} {cs : List C}, ox m ps szs = some cs -> zQ m cs ps
 | [], _, cs, h => by cases h; exact ⟨rfl, fun j c p hj => by simp at hj⟩
 | _ :: _, [], _, h => by cases h
 | p :: ps, sz :: szs, cs, h => by
  simp only [ox] at h
  have key : ∀ c : C, ((p = [] /\ ∃ sz, c = .sl sz []) \/ ∃ q i f rows, p = q ++ [(i, f)] /\ ay m q = some rows /\ at2 rows i f = some c) -> (ox m ps szs).map (c :: ·) = some cs -> zQ m cs (p :: ps) := fun c hc h => by
   cases hx : ox m ps szs with
   | none => rw [hx] at h; cases h
   | some cs0 =>
    rw [hx] at h
    cases h
    obtain ⟨g1, g2⟩ := DO hx
    refine ⟨by simp [g1], fun j c' p' hj hp => ?_⟩
    cases j with
    | zero => simp at hj hp; subst hj hp; exact hc
    | succ j => exact g2 j c' p' (by simpa using hj) (by simpa using hp)
  split at h
  ·rename_i he
   exact key _ (.inl ⟨by cases p <;> simp_all, sz, rfl⟩) h
  ·split at h
   ·cases h
   ·rename_i i f hl
    split at h
    ·cases h
    ·rename_i rows hq
     split at h
     ·cases h
     ·rename_i c hc
      exact key c (.inr ⟨p.dropLast, i, f, rows, Bp hl, hq, hc⟩) h
end Go.Mv
namespace Go.Mv
open Go.RowKit
def chk {α : Type} (c : Prop) [Decidable c] (k : Option α) : Option α := if c then k else none
def bnd {α β : Type} (o : Option α) (k : α -> Option β) : Option β := match o with | some a => k a | none => none
def KO {ι τ : Type} (o : Option (ι ⊕ τ)) (k : ι -> Option τ) : Option τ := match o with | some (.inl j) => k j | some (.inr t) => some t | none => none
def aB {α : Type} (xs : List α) (i : Int) : Option α := if 0 <= i then xs[i.toNat]? else none
theorem Yb {α β : Type} {o : Option α} {k : α -> Option β} {v : β} (h : bnd o k = some v) : ∃ r, o = some r /\ k r = some v := by
 unfold bnd at h
 split at h
 ·exact ⟨_, rfl, h⟩
 ·cases h
theorem Ya {ι τ : Type} {o : Option (ι ⊕ τ)} {k : ι -> Option τ} {z : τ} (h : KO o k = some z) : ∃ y, o = some y /\ (∀ j, y = .inl j -> k j = some z) /\ (∀ t, y = .inr t -> t = z) := by
 unfold KO at h
 split at h
 ·exact ⟨_, rfl, fun j hj => Sum.inl.inj hj ▸ h, fun t ht => (nomatch ht)⟩
 ·exact ⟨_, rfl, fun j hj => (nomatch hj), fun t ht => (Sum.inr.inj ht).symm.trans (Option.some.inj h)⟩
 ·cases h
theorem bO {α : Type} {xs : List α} {i : Int} {x : α} (h : aB xs i = some x) : 0 <= i /\ xs[i.toNat]? = some x := by
 unfold aB at h
 split at h
 ·rename_i hi; exact ⟨hi, h⟩
 ·cases h
@[simp] theorem yX {α β : Type} (a : α) (k : α -> Option β) : bnd (some a) k = k a := rfl
@[simp] theorem YO {α β : Type} (k : α -> Option β) : bnd none k = none := rfl
@[simp] theorem yW {ι τ : Type} (j : ι) (k : ι -> Option τ) : KO (some (.inl j) : Option (ι ⊕ τ)) k = k j := rfl
@[simp] theorem YN {ι τ : Type} (t : τ) (k : ι -> Option τ) : KO (some (.inr t) : Option (ι ⊕ τ)) k = some t := rfl
theorem gO {α : Type} (xs : List α) (k : Nat) : aB xs (k : Int) = xs[k]? := by unfold aB; rw [if_pos (Int.natCast_nonneg k)]; rfl
def uZ {σ τ : Type} (f : σ -> Option (σ ⊕ τ)) : Nat -> σ -> Option τ
 | 0, _ => none
 | n + 1, s => match f s with
  | none => none
  | some (.inl s') => uZ f n s'
  | some (.inr t) => some t
theorem wN {σ τ : Type} {f : σ -> Option (σ ⊕ τ)} : ∀ {n m : Nat} {s : σ} {t : τ}, n <= m -> uZ f n s = some t -> uZ f m s = some t
 | 0, _, s, t, _, h => by cases h
 | n + 1, 0, s, t, hm, _ => by omega
 | n + 1, m + 1, s, t, hm, h => by
  simp only [uZ] at h ⊢
  split at h
  ·cases h
  ·exact wN (by omega) h
  ·exact h
open Classical in
noncomputable def aV {σ τ : Type} (f : σ -> Option (σ ⊕ τ)) (s : σ) : Option τ := if h : ∃ t n, uZ f n s = some t then some h.choose else none
theorem qb {σ τ : Type} {f : σ -> Option (σ ⊕ τ)} {s : σ} {t : τ} : aV f s = some t ↔ ∃ n, uZ f n s = some t := by
 unfold aV
 constructor
 ·intro h
  split at h
  ·rename_i hx
   cases h
   exact hx.choose_spec
  ·cases h
 ·rintro ⟨n, hn⟩
  have hx : ∃ t n, uZ f n s = some t := ⟨t, n, hn⟩
  rw [dif_pos hx]
  obtain ⟨m, hm⟩ := hx.choose_spec
  have h1 := wN (Nat.le_max_left n m) hn
  have h2 := wN (Nat.le_max_right n m) hm
  rw [h1] at h2
  exact h2.symm
theorem oG {σ τ : Type} (f : σ -> Option (σ ⊕ τ)) (s : σ) : aV f s = match f s with | none => none | some (.inl s') => aV f s' | some (.inr t) => some t := by
 have key : ∀ t, aV f s = some t ↔ (match f s with | none => none | some (.inl s') => aV f s' | some (.inr t) => some t) = some t := by
  intro t
  rw [qb]
  constructor
  ·rintro ⟨n, hn⟩
   cases n with
   | zero => cases hn
   | succ n =>
    simp only [uZ] at hn
    split at hn
    ·cases hn
    ·exact qb.2 ⟨n, hn⟩
    ·exact hn
  ·intro h
   split at h
   ·cases h
   ·rename_i s' hs
    obtain ⟨n, hn⟩ := qb.1 h
    exact ⟨n + 1, by simp only [uZ, hs]; exact hn⟩
   ·rename_i t' hs
    exact ⟨1, by simp only [uZ, hs]; exact h⟩
 cases hl : aV f s with
 | some t => exact ((key t).1 hl).symm
 | none =>
  cases hr : (match f s with | none => none | some (.inl s') => aV f s' | some (.inr t) => some t) with
  | none => rfl
  | some t => rw [(key t).2 hr] at hl; cases hl
theorem dL {σ τ : Type} {f : σ -> Option (σ ⊕ τ)} {s s' : σ} (h : f s = some (.inl s')) : aV f s = aV f s' := by rw [oG, h]
theorem bq {σ τ : Type} {f : σ -> Option (σ ⊕ τ)} {s : σ} {t : τ} (h : f s = some (.inr t)) : aV f s = some t := by rw [oG, h]
section
variable {P : Program} {Ty : Types} {B : da} {st : St} {Q : AQ}
def Zo {ι : Type} (B : da) (S : ι -> St) (J : ι -> Prop) (Q : AQ) : AQ
 | .normal, st' => ∃ j, J j /\ Imp B st' (S j)
 | e, st' => Q e st'
theorem Wl {σ τ : Type} {c : Code} (f : σ -> Option (σ ⊕ τ)) (S : σ -> St) (s0 : σ) {z : τ} (h : aV f s0 = some z) (h0 : Imp B st (S s0))
  (step : ∀ s y, f s = some y -> (∀ t, y = .inr t -> t = z) -> AWp P B c (Zo B S (fun s' => y = .inl s') Q) (S s)) : AWp P B (.loop c) Q st := fun a w hR => by
 obtain ⟨n, hn⟩ := qb.1 h
 refine XQ (ι := { p : Nat × σ // uZ f p.1 p.2 = some z }) (fun i => S i.1.2) (fun i => i.1.1) ⟨(n, s0), hn⟩ rfl (fun ⟨⟨m, s⟩, hm⟩ => ?_) a w (h0 a w hR)
 intro a1 w1 hR1
 cases m with
 | zero => cases hm
 | succ m =>
  simp only [uZ] at hm
  cases hy : f s with
  | none => rw [hy] at hm; cases hm
  | some y =>
   rw [hy] at hm
   refine wp_mono (step s y hy (fun t ht => by subst ht; simpa using hm) a1 w1 hR1) fun e a' w' hq => ?_
   cases e with
   | normal =>
    obtain ⟨st2, ⟨s', h1, h2⟩, h3⟩ := hq
    subst h1
    exact ⟨S s', ⟨⟨(m, s'), hm⟩, rfl, Nat.lt_succ_self m⟩, h2 a' w' h3⟩
   | panic c => exact hq
   | outgrown => exact hq
   | ret => exact hq
   | exit id => exact hq
   | goto l => exact hq
def SB (np : Nat) (st : St) (k r sz : Nat) : Option St :=
 match st.t[k]? with
 | some (.one (.c (.v (.slice none 0 0)))) => if np <= r /\ r < st.m.length then some { t := (st.t.map (TV.bX (T1.sH r))).set k (.one (.so [] r 0 0)), m := st.m.set r [.sl sz []] } else none
 | _ => none
theorem Ql {a : Act} {w : World} {k r sz : Nat} {st1 : St} (h : SB B.np st k r sz = some st1) (hR : lz B st a w) : lz B st1 a w := by
 unfold SB at h
 split at h
 ·rename_i hk
  split at h
  ·rename_i hr0
   cases h
   obtain ⟨S, γ, hR, hS⟩ := hR
   have hm : bf w S [[.sl sz []]] (fun _ => none) := by
    have hg : ∀ q rows, q ≠ [] -> ay [[C.sl sz []]] q = some rows -> rows = [] := fun q rows hq hr => by
     cases q with
     | nil => exact absurd rfl hq
     | cons x s =>
      obtain ⟨i, f⟩ := x
      simp only [ay] at hr
      cases hc : at2 [[C.sl sz []]] i f with
      | none => rw [hc] at hr; cases hr
      | some c =>
       obtain ⟨rfl, hf⟩ := wv hc
       rw [hc] at hr
       cases f with
       | succ f => simp at hf
       | zero =>
        simp at hf
        subst hf
        simp only [Option.bind_some, C.rows] at hr
        cases s with
        | nil => simpa [ay] using hr.symm
        | cons y s => obtain ⟨a, b⟩ := y; simp [ay, at2] at hr
    refine ⟨fun q rows hq hr => hg q rows hq hr, fun q rows l i f c hq hr hl => (nomatch hl), fun i f c hc => ?_, fun q q' rows rows' l l' hq hq' hr hr' hl => (nomatch hl)⟩
    obtain ⟨rfl, hf⟩ := wv hc
    cases f with
    | succ f => simp at hf
    | zero => simp at hf; subst hf; exact ⟨.slice none 0 0, rfl, rfl⟩
   have hmem := hR.mem.setRow hm hr0.2 fun q rows l q' rows' l' hq hr hl hq' hr' hl' => nomatch hl'
   refine ⟨S, fE γ (fun _ => none) r, ⟨hR.sS, hR.lt, hmem, fun j t hj => ?_, by simp [hR.size], by simp [hR.msize], hR.defers, fun q rows l hq hr hl => ?_, fun i f c hi hc hrows => ?_, hR.fr⟩, hS⟩
   ·by_cases hkj : k = j
    ·subst hkj
     have hlen : k < (st.t.map (TV.bX (T1.sH r))).length := by have := (List.getElem?_eq_some_iff.1 hj).1; simpa using this
     simp only [List.getElem?_set_self hlen, Option.some.injEq] at hj
     subst hj
     have := jC (hR.tv k _ hk)
     exact .inr ⟨by simp [fE, bJ], rfl, this⟩
    ·simp only [List.getElem?_set_ne hkj] at hj
     obtain ⟨t0, ht0, rfl⟩ := ax hj
     exact aD.bX (fun _ _ ht => au.sH ht) (hR.tv j t0 ht0)
   ·simp only [] at hr
    rw [ov hr0.2 hq] at hr
    unfold fE at hl
    split at hr
    ·rename_i h1; rw [if_pos h1] at hl; cases hl
    ·rename_i h1; rw [if_neg h1] at hl; exact hR.own q rows l hq hr hl
   ·have hid : i ≠ r := by
     have := hr0.1
     omega
    simp only [Ad hr0.2, if_neg hid] at hc
    have e : fE γ (fun _ => none) r [(i, f)] = γ [(i, f)] := by simp [fE, bJ, hid]
    rw [e]
    exact hR.fix i f c hi hc hrows
  ·cases h
 ·cases h
end
end Go.Mv
namespace Go.Mv
open Go.RowKit
theorem ur {α : Type} {xs : List α} {i : Int} {x : α} (h : aB xs i = some x) : 0 <= i /\ i < (xs.length : Int) := by
 obtain ⟨h0, h1⟩ := bO h
 have := (List.getElem?_eq_some_iff.1 h1).1
 omega
section
variable {P : Program} {Ty : Types} {B : da} {st : St} {Q : AQ} {ops : Array Oper}
def Sv (st : St) (p : Path) : Option St :=
 match p.getLast? with
 | none => none
 | some (i, f) => match ay st.m p.dropLast with
  | none => none
  | some rows => match at2 rows i f with
   | none => none
   | some _ => some { t := st.t.map (TV.bX (T1.forget p)), m := bh st.m p.dropLast (bz rows i f .dead) }
theorem NP {s s1 s2 : St} (p : Path) (ks : List Nat) (h : (Sv s p).map (St.ka ks) = some s1) (n : Imp B s1 s2) : Imp B s s2 := fun a w hR => by
 cases hr : Sv s p with
 | none => rw [hr] at h; cases h
 | some st2 =>
  rw [hr] at h
  cases h
  refine n a w (iU ks ?_)
  obtain ⟨S, γ, hR, hS⟩ := hR
  have hk : Bn s [p] = some st2 := by
   unfold Sv at hr
   unfold Bn
   cases hl : p.getLast? with
   | none => rw [hl] at hr; cases hr
   | some y =>
    obtain ⟨i, f⟩ := y
    have hne : p.isEmpty = false := by cases p <;> simp_all
    rw [hl] at hr
    dsimp only at hr ⊢
    rw [if_neg (by rw [hne]; simp)]
    cases hq : ay s.m p.dropLast with
    | none => rw [hq] at hr; cases hr
    | some rows =>
     rw [hq] at hr
     dsimp only at hr ⊢
     cases hc : at2 rows i f with
     | none => rw [hc] at hr; cases hr
     | some c =>
      rw [hc] at hr
      exact hr
  obtain ⟨γk, h1, _⟩ := uX [p] γ s st2 hR hk
  exact ⟨S, γk, h1, hS⟩
end
end Go.Mv
namespace Go.Mv
theorem va {σ τ : Type} {f : σ -> Option (σ ⊕ τ)} (R : σ -> Option τ) (inv : σ -> Prop) (m : σ -> Nat)
  (step : ∀ s, inv s -> (∃ t, f s = some (.inr t) /\ R s = some t) \/ (∃ s', f s = some (.inl s') /\ inv s' /\ m s' < m s /\ R s' = R s)) : ∀ s, inv s -> aV f s = R s := by
 have key : ∀ n s, m s = n -> inv s -> aV f s = R s := by
  intro n
  induction n using Nat.strongRecOn with
  | ind n ih =>
   intro s hn hi
   rcases step s hi with ⟨t, h1, h2⟩ | ⟨s', h1, h2, h3, h4⟩
   ·rw [bq h1, h2]
   ·rw [dL h1, ih (m s') (by omega) s' rfl h2, h4]
 exact fun s hi => key _ s rfl hi
theorem iW {σ τ : Type} {f : σ -> Option (σ ⊕ τ)} (Q : τ -> Prop) (inv : σ -> Prop) (m : σ -> Nat)
  (step : ∀ s, inv s -> (∃ t, f s = some (.inr t) /\ Q t) \/ (∃ s', f s = some (.inl s') /\ inv s' /\ m s' < m s)) : ∀ s, inv s -> ∃ t, aV f s = some t /\ Q t := by
 have key : ∀ n s, m s = n -> inv s -> ∃ t, aV f s = some t /\ Q t := by
  intro n
  induction n using Nat.strongRecOn with
  | ind n ih =>
   intro s hn hi
   rcases step s hi with ⟨t, h1, h2⟩ | ⟨s', h1, h2, h3⟩
   ·exact ⟨t, bq h1, h2⟩
   ·rw [dL h1]; exact ih (m s') (by omega) s' rfl h2
 exact fun s hi => key _ s rfl hi
def lX {α τ : Type} (q : Nat -> α -> Option τ) : List α -> Nat -> Option τ
 | [], _ => none
 | x :: xs, k => match q k x with
  | some t => some t
  | none => lX q xs (k + 1)
theorem Lq {α τ : Type} (q : Nat -> α -> Option τ) {xs : List α} {k : Nat} {x : α} (h : xs[k]? = some x) : lX q (xs.drop k) k = (match q k x with | some t => some t | none => lX q (xs.drop (k + 1)) (k + 1)) := by
 have hk := (List.getElem?_eq_some_iff.1 h).1
 rw [List.drop_eq_getElem_cons hk]
 have : xs[k] = x := by rw [List.getElem?_eq_getElem hk] at h; exact Option.some.inj h
 rw [this]
 rfl
theorem DM {α : Type} (p : α -> Bool) (xs : List α) (k : Nat) {τ : Type} (t : τ) : lX (fun _ x => if p x then some t else none) xs k = if xs.any p then some t else none := by
 induction xs generalizing k with
 | nil => rfl
 | cons x xs ih =>
  simp only [lX, List.any_cons]
  by_cases h : p x = true
  ·simp [h]
  ·simp only [h, Bool.false_eq_true, if_false, Bool.false_or]
   exact ih (k + 1)
theorem rv {α τ υ : Type} (xs : List α) (q : Nat -> α -> Option τ) (f : Int -> Option (Int ⊕ υ)) (out : Option τ -> υ) (hn : xs.length < 9223372036854775807)
  (hs : ∀ (k : Nat) (x : α), xs[k]? = some x -> f k = match q k x with | some t => some (.inr (out (some t))) | none => some (.inl (IntKind.wrap .i64 ((k : Int) + 1))))
  (he : f (xs.length : Nat) = some (.inr (out none))) : aV f 0 = some (out (lX q xs 0)) := by
 have := va (f := f) (fun s => some (out (lX q (xs.drop s.toNat) s.toNat))) (fun s => 0 <= s /\ s <= xs.length) (fun s => xs.length - s.toNat) (fun s hi => by
  obtain ⟨h0, h1⟩ := hi
  obtain ⟨k, rfl⟩ := Int.eq_ofNat_of_zero_le h0
  by_cases hk : k = xs.length
  ·subst hk
   refine .inl ⟨_, he, ?_⟩
   simp [lX]
  ·have hlt : k < xs.length := by omega
   have hx := List.getElem?_eq_getElem hlt
   have hf := hs k _ hx
   have hd := Lq q hx
   simp only [Int.toNat_natCast]
   cases hq : q k xs[k] with
   | some t =>
    rw [hq] at hf hd
    exact .inl ⟨_, hf, by rw [hd]⟩
   | none =>
    rw [hq] at hf hd
    have hw : IntKind.wrap .i64 ((k : Int) + 1) = ((k + 1 : Nat) : Int) := by rw [Mw (by omega) (by omega)]; rfl
    rw [hw] at hf
    exact .inr ⟨_, hf, ⟨by omega, by omega⟩, by simp; omega, by simp only [Int.toNat_natCast]; rw [hd]⟩) 0 ⟨by omega, by omega⟩
 simpa using this
theorem ag {α : Type} {xs : List α} {k : Nat} {x : α} (h : xs[k]? = some x) : aB xs (k : Int) = some x := by rw [gO, h]
theorem an (n : Int) (h0 : -9223372036854775808 <= n) (h1 : n < 9223372036854775808) : IntKind.wrap .i64 n = n := Mw h0 h1
end Go.Mv
