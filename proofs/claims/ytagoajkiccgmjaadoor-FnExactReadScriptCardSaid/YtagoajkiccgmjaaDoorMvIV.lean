/- Calls that are lent or given what the caller owns, function values, loops and joins along a term that may fail; whatever the program and the state. -/
import Derived.Test.YtagoajkiccgmjaaDoorMvIII
set_option linter.unusedVariables false
set_option linter.unusedSimpArgs false
/- What is owned, lent to a callee that only reads. -/
namespace Go.Mv
open Go.RowKit

/-- Blocks that are owned. -/
def ownB (m : Rows) (γ : Path → Option Loc) (b : Nat) : Prop := ∃ q rows l, q ≠ [] ∧ getR m q = some rows ∧ γ q = some l ∧ l.b = b

mutual
/-- The same tree, without marks of what is frozen. -/
inductive Unfz : C → C → Prop
  | same {c : C} : Unfz c c
  | fz {c c' : C} : Unfz c c' → Unfz (.fz c) c'
  | bx {r r' : List C} : UnfzL r r' → Unfz (.bx r) (.bx r')
  | sl {sz : Nat} {rs rs' : Rows} : UnfzR rs rs' → Unfz (.sl sz rs) (.sl sz rs')
inductive UnfzL : List C → List C → Prop
  | nil : UnfzL [] []
  | cons {c c' : C} {r r' : List C} : Unfz c c' → UnfzL r r' → UnfzL (c :: r) (c' :: r')
inductive UnfzR : Rows → Rows → Prop
  | nil : UnfzR [] []
  | cons {r r' : List C} {rs rs' : Rows} : UnfzL r r' → UnfzR rs rs' → UnfzR (r :: rs) (r' :: rs')
end

theorem UnfzL.length : ∀ {r r' : List C}, UnfzL r r' → r.length = r'.length
  | _, _, .nil => rfl
  | _, _, .cons _ h => by simp [UnfzL.length h]
theorem UnfzR.length : ∀ {r r' : Rows}, UnfzR r r' → r.length = r'.length
  | _, _, .nil => rfl
  | _, _, .cons _ h => by simp [UnfzR.length h]
theorem UnfzR.rows {sz : Nat} : ∀ {r r' : Rows}, UnfzR r r' → (∀ row ∈ r, row.length = sz) → ∀ row ∈ r', row.length = sz
  | _, _, .nil, h => h
  | _, _, .cons h1 h2, h => fun row hr => by
    rcases List.mem_cons.1 hr with rfl | hr
    · rw [← h1.length]; exact h _ (by simp)
    · exact UnfzR.rows h2 (fun z hz => h z (by simp [hz])) row hr

theorem RepFs.split {w : World} {S : Nat → Prop} : ∀ {cs ds : List C} {xs : List Value}, RepFs w S (cs ++ ds) xs → ∃ x1 x2, xs = x1 ++ x2 ∧ RepFs w S cs x1 ∧ RepFs w S ds x2
  | [], ds, xs, h => ⟨[], xs, rfl, .nil, h⟩
  | c :: cs, ds, _, .cons h t => by
    obtain ⟨x1, x2, rfl, h1, h2⟩ := RepFs.split t
    exact ⟨_ :: x1, x2, rfl, .cons h h1, h2⟩

mutual
theorem Unfz.rep {w : World} {S : Nat → Prop} : ∀ {c c' : C} {x : Value}, Unfz c c' → RepF w S c x → RepF w S c' x
  | _, _, _, .same, h => h
  | _, _, _, .fz u, .fz h => u.rep h
  | _, _, _, .bx u, .bx hb hs hc => .bx hb (u.rep hs) hc
  | _, _, _, .sl .nil, h => h
  | _, _, _, .sl (.cons u v), .sl hb hr hs hc hl => by
    have hn := (UnfzR.cons u v).length
    rw [hn] at hl ⊢
    exact .sl hb ((UnfzR.cons u v).rows hr) ((UnfzR.cons u v).rep hs) hc hl
theorem UnfzL.rep {w : World} {S : Nat → Prop} : ∀ {c c' : List C} {x : List Value}, UnfzL c c' → RepFs w S c x → RepFs w S c' x
  | _, _, _, .nil, h => h
  | _, _, _, .cons u v, .cons h t => .cons (u.rep h) (v.rep t)
theorem UnfzR.rep {w : World} {S : Nat → Prop} : ∀ {c c' : Rows} {x : List Value}, UnfzR c c' → RepFs w S c.flatten x → RepFs w S c'.flatten x
  | _, _, _, .nil, h => h
  | _, _, _, .cons u v, h => by
    rw [List.flatten_cons] at h ⊢
    obtain ⟨x1, x2, rfl, h1, h2⟩ := RepFs.split h
    exact (u.rep h1).append (v.rep h2)
end

inductive Lend1 (m : Rows) : T1 → T1 → Prop
  | nilv {sz : Nat} : Lend1 m (.c (.v (.slice none 0 0))) (.c (.sl sz []))
  | imp {t : T1} {c c' : C} : Lend1 m t (.c c) → Unfz c c' → Lend1 m t (.c c')
  | same {t : T1} : closed1 t = true → Lend1 m t t
  | so {q : Path} {i f n sz : Nat} {rs rows : Rows} : getR m q = some rs → at2 rs i f = some (.sl sz rows) → rows.length = n → Lend1 m (.so q i f n) (.c (.sl sz rows))
  | bx {q : Path} {i f : Nat} {rs : Rows} {row : List C} : getR m q = some rs → at2 rs i f = some (.bx row) → Lend1 m (.pl (q ++ [(i, f)]) 0 0) (.c (.bx row))

inductive LendL (m : Rows) : List T1 → List T1 → Prop
  | nil : LendL m [] []
  | cons {t t' : T1} {l l' : List T1} : Lend1 m t t' → LendL m l l' → LendL m (t :: l) (t' :: l')

inductive LendV (m : Rows) : TV → TV → Prop
  | one {t t' : T1} : Lend1 m t t' → LendV m (.one t) (.one t')
  | agg {l l' : List T1} : LendL m l l' → LendV m (.agg l) (.agg l')

inductive LendVs (m : Rows) : List TV → List TV → Prop
  | nil : LendVs m [] []
  | cons {t t' : TV} {l l' : List TV} : LendV m t t' → LendVs m l l' → LendVs m (t :: l) (t' :: l')

section
variable {P : Program} {Ty : Types} {B : Base} {S : Nat → Prop} {γ : Path → Option Loc} {st : St} {a : Act} {w : World} {Q : AQ} {ops : Array Oper}

theorem Lend1.val (hR : Rel B S γ st a w) {t t' : T1} (h : Lend1 st.m t t') {x : Value} (hx : T1Val w S γ t x) : T1Val w (fun b => S b ∨ ownB st.m γ b) (fun _ => none) t' x := by
  have hSS : ∀ b, S b → S b ∨ ownB st.m γ b := fun b hb => .inl hb
  induction h with
  | nilv =>
    have hr : RepF w S (.v (.slice none 0 0)) x := hx
    cases hr
    exact RepF.nil
  | imp _ hu ih => exact hu.rep (ih hx)
  | same hc => exact closed1_val hc (T1Val.frame hSS (fun _ _ => rfl) hx)
  | @so q i f n sz rs rows hq hc hn =>
    obtain ⟨v, hv⟩ := hR.mem.someHdr hq hc
    have hdet := hR.mem.det hq hc hv
    have hrep : RepF w (fun b => S b ∨ ownB st.m γ b) (.sl sz rows) v := Det.rep hSS _ _ v hdet fun s rs l hg hl => .inr ⟨q ++ (i, f) :: s, rs, l, by simp, by rw [getX_of hq hc]; exact hg, hl, rfl⟩
    have hxv : x = v := by
      rcases hx with ⟨l, hl, hx, _⟩ | ⟨hl, h0, hx⟩
      · rw [hl] at hv; rw [hx, hv.1, hn]
      · rw [hl] at hv; rw [hx, hv.2]
    rw [hxv]
    exact hrep
  | @bx q i f rs row hq hc =>
    obtain ⟨v, hv⟩ := hR.mem.someHdr hq hc
    have hdet := hR.mem.det hq hc hv
    have hrep : RepF w (fun b => S b ∨ ownB st.m γ b) (.bx row) v := Det.rep hSS _ _ v hdet fun s rs l hg hl => .inr ⟨q ++ (i, f) :: s, rs, l, by simp, by rw [getX_of hq hc]; exact hg, hl, rfl⟩
    obtain ⟨l, hl, hx⟩ := hx
    have hxv : x = v := by
      rw [hl] at hv
      rw [hx, show v = .pointer (some ⟨l.b, l.off, none⟩) from hv]
      simp
    rw [hxv]
    exact hrep

theorem LendL.val (hR : Rel B S γ st a w) : ∀ {l l' : List T1} {xs : List Value}, LendL st.m l l' → All2 (T1Val w S γ) l xs → All2 (T1Val w (fun b => S b ∨ ownB st.m γ b) (fun _ => none)) l' xs
  | _, _, xs, .nil, h => by
    have : xs = [] := List.eq_nil_of_length_eq_zero (by rw [← h.1]; rfl)
    subst this
    exact .nil
  | _, _, xs, .cons h1 h2, h => by
    obtain ⟨x, xs', rfl, g1, g2⟩ := h.uncons
    exact .cons (h1.val hR g1) (LendL.val hR h2 g2)

theorem LendV.val (hR : Rel B S γ st a w) {t t' : TV} (h : LendV st.m t t') {x : Value} (hx : TVVal w S γ t x) : TVVal w (fun b => S b ∨ ownB st.m γ b) (fun _ => none) t' x := by
  cases h with
  | one h => exact h.val hR hx
  | agg h =>
    obtain ⟨xs, rfl, hl⟩ := hx
    exact ⟨xs, rfl, h.val hR hl⟩

theorem LendVs.val (hR : Rel B S γ st a w) : ∀ {l l' : List TV} {xs : List Value}, LendVs st.m l l' → All2 (TVVal w S γ) l xs → All2 (TVVal w (fun b => S b ∨ ownB st.m γ b) (fun _ => none)) l' xs
  | _, _, xs, .nil, h => by
    have : xs = [] := List.eq_nil_of_length_eq_zero (by rw [← h.1]; rfl)
    subst this
    exact .nil
  | _, _, xs, .cons h1 h2, h => by
    obtain ⟨x, xs', rfl, g1, g2⟩ := h.uncons
    exact .cons (h1.val hR g1) (LendVs.val hR h2 g2)

theorem own_lt (hR : Rel B S γ st a w) (b : Nat) (h : S b ∨ ownB st.m γ b) : b < w.heap.size := by
  rcases h with h | ⟨q, rows, l, hq, hr, hl, rfl⟩
  · exact hR.lt b h
  · have := hR.mem.loc q rows hq hr
    rw [hl] at this
    obtain ⟨_, _, _, cells, e, lo, hi, h4, _⟩ := this
    exact lt_of_heap h4

/-! ### Results that lead to nothing that was there -/
/-- A tree of one's own through and through: nothing in it is only read. -/
inductive Clean : C → Prop
  | v {u : Value} : Clean (.v u)
  | dead : Clean .dead
  | sl {sz : Nat} {rows : Rows} : (∀ r ∈ rows, ∀ c ∈ r, Clean c) → Clean (.sl sz rows)
  | bx {row : List C} : (∀ c ∈ row, Clean c) → Clean (.bx row)

def CleanRows (rows : Rows) : Prop := ∀ r ∈ rows, ∀ c ∈ r, Clean c

theorem CleanRows.at2 {rows : Rows} (h : CleanRows rows) {i f : Nat} {c : C} (hc : at2 rows i f = some c) : Clean c := by
  unfold Mv.at2 at hc
  cases hz : rows[i]? with
  | none => rw [hz] at hc; cases hc
  | some z => rw [hz] at hc; exact h z (List.mem_of_getElem? hz) c (List.mem_of_getElem? hc)

theorem Clean.rows {c : C} (h : Clean c) {r : Rows} (hr : c.rows = some r) : CleanRows r := by
  cases h with
  | v => simp [C.rows] at hr
  | dead => simp [C.rows] at hr
  | sl h => simp only [C.rows, Option.some.injEq] at hr; subst hr; exact h
  | bx h => simp only [C.rows, Option.some.injEq] at hr; subst hr; intro r hr c hc; simp only [List.mem_singleton] at hr; subst hr; exact h c hc

theorem CleanRows.getR {m : Rows} (h : CleanRows m) : ∀ {q : Path} {rows : Rows}, getR m q = some rows → CleanRows rows := by
  intro q
  induction q generalizing m with
  | nil => intro rows hr; simp only [Mv.getR, Option.some.injEq] at hr; subst hr; exact h
  | cons x s ih =>
    obtain ⟨i, f⟩ := x
    intro rows hr
    simp only [Mv.getR] at hr
    cases h0 : Mv.at2 m i f with
    | none => rw [h0] at hr; cases hr
    | some c0 =>
      rw [h0] at hr
      simp only [Option.bind_some] at hr
      cases h1 : c0.rows with
      | none => rw [h1] at hr; cases hr
      | some r => rw [h1] at hr; exact ih ((h.at2 h0).rows h1) hr

theorem Clean.hdr {w : World} {S S' : Nat → Prop} {c : C} (h : Clean c) {l : Option Loc} {x : Value} (hx : Hdr w S c l x) : Hdr w S' c l x := by
  cases h with
  | v => exact hx
  | dead => exact hx
  | sl h => cases l <;> exact hx
  | bx h => cases l <;> exact hx

theorem MemOK.clean {w : World} {S S' : Nat → Prop} {γ : Path → Option Loc} {m : Rows} (h : MemOK w S m γ) (hcl : CleanRows m) (hS : ∀ b, S' b → S b) : MemOK w S' m γ := by
  refine ⟨fun q rows hq hr => ?_, fun q rows l i f c hq hr hl hc => ?_, fun i f c hc => ?_, h.inj⟩
  · have := h.loc q rows hq hr
    cases hl : γ q with
    | none => rw [hl] at this; exact this
    | some l => rw [hl] at this; exact ⟨fun hb => this.1 (hS _ hb), this.2⟩
  · obtain ⟨x, h1, h2⟩ := h.cell q rows l i f c hq hr hl hc
    exact ⟨x, h1, ((hcl.getR hr).at2 hc).hdr h2⟩
  · obtain ⟨x, hx⟩ := h.head i f c hc
    exact ⟨x, (hcl.at2 hc).hdr hx⟩

def cleanT1 : T1 → Bool
  | .unk => true
  | .c (.v _) => true
  | .pl _ _ _ => true
  | .so _ _ _ _ => true
  | .sp _ _ _ => true
  | _ => false

def cleanT2 : T2 → Bool
  | .one t => cleanT1 t
  | .agg l => l.all cleanT1

def cleanV : TV → Bool
  | .one t => cleanT1 t
  | .agg l => l.all cleanT1
  | .tup l => l.all cleanT2

theorem cleanT1_val {S' : Nat → Prop} {t : T1} {x : Value} (h : cleanT1 t = true) (hx : T1Val w S γ t x) : T1Val w S' γ t x := by
  cases t with
  | c c =>
    cases c with
    | v u =>
      have hr : RepF w S (.v u) x := hx
      cases hr with
      | v hp => exact RepF.v hp
    | _ => cases h
  | fp row f => cases h
  | _ => exact hx

theorem cleanL_val {S' : Nat → Prop} {l : List T1} {xs : List Value} (h : l.all cleanT1 = true) (hx : All2 (T1Val w S γ) l xs) : All2 (T1Val w S' γ) l xs :=
  hx.imp fun t x ht hv => cleanT1_val (List.all_eq_true.1 h t ht) hv

theorem cleanV_val {S' : Nat → Prop} {t : TV} {x : Value} (h : cleanV t = true) (hx : TVVal w S γ t x) : TVVal w S' γ t x := by
  cases t with
  | one t => exact cleanT1_val h hx
  | agg l => obtain ⟨xs, rfl, hl⟩ := hx; exact ⟨xs, rfl, cleanL_val h hl⟩
  | tup l =>
    obtain ⟨xs, rfl, hl⟩ := hx
    refine ⟨xs, rfl, hl.imp fun t x ht hv => ?_⟩
    have := List.all_eq_true.1 h t ht
    cases t with
    | one t => exact cleanT1_val this hv
    | agg l => obtain ⟨ys, rfl, hl2⟩ := hv; exact ⟨ys, rfl, cleanL_val this hl2⟩

theorem Ret.clean {S' : Nat → Prop} {w' : World} {res : TV} {row : List C} {v : Value} (h : Ret w S' w' res row v) (hc : cleanV res = true) (hr : CleanRows [row]) (hS : ∀ b, S b → S' b) (hlt : ∀ b, S b → b < w.heap.size) : Ret w S w' res row v := by
  obtain ⟨hb, S2, γr, h1, h2, h3, h4, h5, h6⟩ := h
  exact ⟨hb, S, γr, fun _ h => h, fun _ h => .inl h, fun b hs => Nat.lt_of_lt_of_le (hlt b hs) hb.size, h4.clean hr fun b hs => h1 b (hS b hs), cleanV_val hc h5, h6⟩

/-! ### The call -/
theorem lend_ret (hR : Rel B S γ st a w) {f : FuncId} {A A' : List TV} {vals : List Value} {res : TV} {row : List C} (hC : CallOK P f A' res row) (hL : LendVs st.m A A') (hv : All2 (TVVal w S γ) A vals) (hc : cleanV res = true) (hr : CleanRows [row]) :
    Calls P f vals.toArray w fun e w' => ∃ v, e = .returned v ∧ Ret w S w' res row v :=
  (hC w _ vals (own_lt hR) (hL.val hR hv)).mono fun e w' ⟨v, he, h⟩ => ⟨v, he, h.clean hc hr (fun _ hb => .inl hb) hR.lt⟩

end
end Go.Mv

/- What is owned, lent to a callee that writes it: the contract, from a walk of the body. -/
namespace Go.Mv
open Go.RowKit

/-- What a call that is lent something begins with: it may write the blocks that it is lent. -/
def baseIO (w : World) (S : Nat → Prop) (ins : Rows) (γ : Path → Option Loc) : Base := ⟨w, S, fun b _ => ownB ins γ b, ins.length, γ⟩

def enterIO (ins : Rows) (args : List TV) (n : Nat) : St := { t := enterT args n, m := ins ++ List.replicate (args.length + (n - args.length) - ins.length) [.dead] }

theorem at2_append_dead {ins : Rows} {k i f : Nat} {c : C} (h : at2 (ins ++ List.replicate k [C.dead]) i f = some c) : at2 ins i f = some c ∨ c = .dead := by
  unfold at2 at h ⊢
  by_cases hi : i < ins.length
  · rw [List.getElem?_append_left hi] at h; exact .inl h
  · rw [List.getElem?_append_right (by omega), List.getElem?_replicate] at h
    split at h
    · simp only [Option.bind_some] at h
      have := List.mem_of_getElem? h
      exact .inr (by simpa using this)
    · cases h

theorem getR_append_dead {ins : Rows} {k : Nat} {q : Path} {rows : Rows} (hq : q ≠ []) (h : getR (ins ++ List.replicate k [C.dead]) q = some rows) : getR ins q = some rows := by
  cases q with
  | nil => exact absurd rfl hq
  | cons x s =>
    obtain ⟨i, f⟩ := x
    simp only [getR] at h ⊢
    cases hc : at2 (ins ++ List.replicate k [C.dead]) i f with
    | none => rw [hc] at h; cases h
    | some c =>
      rw [hc] at h
      rcases at2_append_dead hc with h1 | rfl
      · rw [h1]; exact h
      · simp [C.rows] at h

section
variable {P : Program} {Ty : Types} {B : Base} {S : Nat → Prop} {γ : Path → Option Loc} {st : St} {a : Act} {w : World}

theorem enterIO_rel {ins : Rows} {args : List TV} {vals : List Value} {n : Nat} (hS : ∀ b, S b → b < w.heap.size) (hm : MemOK w S ins γ) (h : All2 (TVVal w S γ) args vals) (hl : ins.length ≤ args.length) :
    RelE (baseIO w S ins γ) (enterIO ins args n) { tmps := vals.toArray ++ Array.replicate (n - vals.toArray.size) undef, defers := [] } w := by
  refine ⟨S, γ, ⟨fun _ hb => hb, hS, ⟨fun q rows hq hr => hm.loc q rows hq (getR_append_dead hq hr), fun q rows l i f c hq hr => hm.cell q rows l i f c hq (getR_append_dead hq hr), fun i f c hc => ?_,
      fun q q' rows rows' l l' hq hq' hr hr' => hm.inj q q' rows rows' l l' hq hq' (getR_append_dead hq hr) (getR_append_dead hq' hr')⟩,
    fun k t hk => ?_, ?_, ?_, rfl, fun q rows l hq hr hl => .inr ⟨⟨0, q, rows, l, hq, getR_append_dead hq hr, hl, rfl⟩, fun o _ _ => ⟨q, rows, l, hq, getR_append_dead hq hr, hl, rfl⟩⟩, fun i f c _ _ _ => rfl, Frame.refl _⟩, fun b hb => .inl hb⟩
  · rcases at2_append_dead hc with h1 | rfl
    · exact hm.head i f c h1
    · exact ⟨.bool true, rfl⟩
  · simp only [enterIO, enterT] at hk
    simp only [Array.getD_eq_getD_getElem?, Array.getElem?_append, List.size_toArray, List.getElem?_toArray]
    by_cases hlt : k < args.length
    · rw [List.getElem?_append_left hlt] at hk
      obtain ⟨b, h1, h2⟩ := h.get hk
      rw [if_pos (by rw [← h.1]; exact hlt), h1]
      exact h2
    · rw [List.getElem?_append_right (by omega), List.getElem?_replicate] at hk
      split at hk
      · cases hk; trivial
      · cases hk
  · simp [enterIO, enterT, h.1]
  · simp [enterIO, enterT]; omega

end
end Go.Mv

/- What is owned, lent to a callee that writes it: the caller behind the call. -/
namespace Go.Mv
open Go.RowKit

def isDead : C → Bool
  | .dead => true
  | _ => false

/-- The paths below a parameter, as the caller sees them. -/
def inG (γ : Path → Option Loc) (q : Path) (i f : Nat) : Path → Option Loc
  | (0, k) :: s => γ (q ++ (i, f + k) :: s)
  | _ => none

inductive HeadL : List C → List C → Prop
  | nil {cs : List C} : HeadL cs []
  | dead {c : C} {cs xs : List C} : HeadL cs xs → HeadL (c :: cs) (.dead :: xs)
  | sl {sz sz' : Nat} {r r' : Rows} {cs xs : List C} : r'.length = r.length → HeadL cs xs → HeadL (.sl sz r :: cs) (.sl sz' r' :: xs)
  | bx {r r' : List C} {cs xs : List C} : HeadL cs xs → HeadL (.bx r :: cs) (.bx r' :: xs)

def sameHd : C → C → Prop
  | .sl _ r, .sl _ r' => r'.length = r.length
  | .bx _, .bx _ => True
  | _, _ => False

theorem HeadL.get : ∀ {cs xs : List C}, HeadL cs xs → ∀ {k : Nat} {x : C}, xs[k]? = some x → isDead x = false → ∃ c, cs[k]? = some c ∧ sameHd c x
  | _, _, .nil, k, x, h, _ => by simp at h
  | _, _, .dead h, 0, x, hx, hd => by simp at hx; subst hx; cases hd
  | _, _, .dead h, k + 1, x, hx, hd => by simpa using h.get (by simpa using hx) hd
  | _, _, .sl hl h, 0, x, hx, hd => by simp at hx; subst hx; exact ⟨_, rfl, hl⟩
  | _, _, .sl hl h, k + 1, x, hx, hd => by simpa using h.get (by simpa using hx) hd
  | _, _, .bx h, 0, x, hx, hd => by simp at hx; subst hx; exact ⟨_, rfl, trivial⟩
  | _, _, .bx h, k + 1, x, hx, hd => by simpa using h.get (by simpa using hx) hd

inductive IO1 (q : Path) (i f : Nat) : T1 → T1 → Prop
  | same {t : T1} : closed1 t = true → IO1 q i f t t
  | so (k : Nat) {n : Nat} : IO1 q i f (.so q i (f + k) n) (.so [] 0 k n)
  | pl (k : Nat) : IO1 q i f (.pl (q ++ [(i, f + k)]) 0 0) (.pl [(0, k)] 0 0)

inductive IOL (q : Path) (i f : Nat) : List T1 → List T1 → Prop
  | nil : IOL q i f [] []
  | cons {t t' : T1} {l l' : List T1} : IO1 q i f t t' → IOL q i f l l' → IOL q i f (t :: l) (t' :: l')

inductive IOV (q : Path) (i f : Nat) : TV → TV → Prop
  | one {t t' : T1} : IO1 q i f t t' → IOV q i f (.one t) (.one t')
  | agg {l l' : List T1} : IOL q i f l l' → IOV q i f (.agg l) (.agg l')

inductive IOVs (q : Path) (i f : Nat) : List TV → List TV → Prop
  | nil : IOVs q i f [] []
  | cons {t t' : TV} {l l' : List TV} : IOV q i f t t' → IOVs q i f l l' → IOVs q i f (t :: l) (t' :: l')

section
variable {P : Program} {Ty : Types} {B : Base} {S : Nat → Prop} {γ : Path → Option Loc} {st : St} {a : Act} {w : World} {Q : AQ} {ops : Array Oper} {q : Path} {i f : Nat}

theorem IO1.val {t t' : T1} (h : IO1 q i f t t') {x : Value} (hx : T1Val w S γ t x) : T1Val w S (inG γ q i f) t' x := by
  cases h with
  | same hc => exact closed1_val hc hx
  | so k => exact hx
  | pl k =>
    obtain ⟨l, hl, hx⟩ := hx
    exact ⟨l, hl, hx⟩

theorem IOL.val : ∀ {l l' : List T1} {xs : List Value}, IOL q i f l l' → All2 (T1Val w S γ) l xs → All2 (T1Val w S (inG γ q i f)) l' xs
  | _, _, xs, .nil, h => by
    have : xs = [] := List.eq_nil_of_length_eq_zero (by rw [← h.1]; rfl)
    subst this
    exact .nil
  | _, _, xs, .cons h1 h2, h => by
    obtain ⟨x, xs', rfl, g1, g2⟩ := h.uncons
    exact .cons (h1.val g1) (IOL.val h2 g2)

theorem IOV.val {t t' : TV} (h : IOV q i f t t') {x : Value} (hx : TVVal w S γ t x) : TVVal w S (inG γ q i f) t' x := by
  cases h with
  | one h => exact h.val hx
  | agg h => obtain ⟨xs, rfl, hl⟩ := hx; exact ⟨xs, rfl, h.val hl⟩

theorem IOVs.val : ∀ {l l' : List TV} {xs : List Value}, IOVs q i f l l' → All2 (TVVal w S γ) l xs → All2 (TVVal w S (inG γ q i f)) l' xs
  | _, _, xs, .nil, h => by
    have : xs = [] := List.eq_nil_of_length_eq_zero (by rw [← h.1]; rfl)
    subst this
    exact .nil
  | _, _, xs, .cons h1 h2, h => by
    obtain ⟨x, xs', rfl, g1, g2⟩ := h.uncons
    exact .cons (h1.val g1) (IOVs.val h2 g2)

theorem isDead_rows {c : C} (h : isDead c = true) : c.rows = none := by cases c <;> first | rfl | cases h

theorem at2_one {cs : List C} {i0 k : Nat} {c : C} (h : at2 [cs] i0 k = some c) : i0 = 0 ∧ cs[k]? = some c := by
  unfold at2 at h
  cases i0 with
  | zero => exact ⟨rfl, by simpa using h⟩
  | succ i0 => simp at h

/-- The caller's world behind a call that wrote only what it was lent. -/
theorem Rel.frameIO {w' : World} {ins : Rows} {γi : Path → Option Loc} (hR : Rel B S γ st a w) (hf : Frame (baseIO w S ins γi) w') (hS : ∀ b, S b → ¬ ownB ins γi b) (hd : ∀ p rs l, p ≠ [] → getR st.m p = some rs → γ p = some l → ¬ ownB ins γi l.b)
    (hB : ∀ b, ownB ins γi b → B.w.heap.size ≤ b ∨ ∀ o, B.F b o) : Rel B S γ st a w' := by
  have hall : ∀ b, b < w.heap.size → ¬ ownB ins γi b → w'.heap[b]? = w.heap[b]? := fun b hb hn => hf.all b hb fun o ho => hn ho
  have hSw : ∀ b, S b → w'.heap[b]? = w.heap[b]? := fun b hb => hall b (hR.lt b hb) (hS b hb)
  refine ⟨hR.sS, fun b hb => Nat.lt_of_lt_of_le (hR.lt b hb) hf.size, hR.mem.frame (fun _ hb => hb) hSw fun p rs l hp hr hl => ?_, fun k t hk => TVVal.imp (fun _ _ ht => T1Val.frame (fun _ hb => hb) hSw ht) (hR.tv k t hk), hR.size, hR.msize, hR.defers, hR.own, hR.fix, ?_⟩
  · have := hR.mem.loc p rs hp hr
    rw [hl] at this
    obtain ⟨h1, _, _, cells, e, lo, hi, h4, _⟩ := this
    exact ⟨hall _ (lt_of_heap h4) (hd p rs l hp hr hl), h1⟩
  · have hsz : B.w.heap.size ≤ w.heap.size := hR.fr.size
    refine ⟨hf.os.trans hR.fr.os, hf.tape.trans hR.fr.tape, hf.output.trans hR.fr.output, Nat.le_trans hsz hf.size, fun b hb hF => ?_, fun b cells e z hh => ?_⟩
    · have hn : ¬ ownB ins γi b := fun ho => by
        rcases hB b ho with h1 | h1
        · omega
        · exact hF 0 (h1 0)
      rw [hall b (by omega) hn]
      exact hR.fr.all b hb hF
    · obtain ⟨c1, h1, h2, h3⟩ := hR.fr.cells b cells e z hh
      obtain ⟨c2, g1, g2, g3⟩ := hf.cells b c1 e z h1
      refine ⟨c2, g1, g2.trans h2, fun o ho => ?_⟩
      have hn : ¬ ownB ins γi b := fun hob => by
        rcases hB b hob with k1 | k1
        · have := lt_of_heap hh; omega
        · exact ho (k1 o)
      rw [g3 o hn, h3 o ho]

theorem sameHd_rows {c x : C} (h : sameHd c x) : c.rows ≠ none ∧ x.rows ≠ none ∧ isDead c = false := by
  cases c <;> cases x <;> first | exact h.elim | exact ⟨by simp [C.rows], by simp [C.rows], rfl⟩

/-! ### The rules -/
theorem wholeFIO (w : World) (S : Nat → Prop) (ins : Rows) (γ : Path → Option Loc) : ∀ b o o', (baseIO w S ins γ).F b o → (baseIO w S ins γ).F b o' := fun _ _ _ h => h

end
end Go.Mv

/- Cells of a row of one's own set, the row told by a term; the end of a function that writes what it is lent. -/
namespace Go.Mv
open Go.RowKit

section
variable {P : Program} {Ty : Types} {B : Base} {S : Nat → Prop} {γ : Path → Option Loc} {st : St} {a : Act} {w : World} {Q : AQ} {ops : Array Oper}

def storeArgsAt (Ty : Types) (ops : Array Oper) (st : St) (i : Nat) : Option (Path × Nat × Nat × Rows × List Nat × List T1) :=
  match ops[i]? with
  | none => none
  | some o => match wantT ops st o, o.dst, o.op with
    | some true, none, .store t p x => match Ty t with
      | none => none
      | some ti => match evT st p, cellsT (evT st x) with
        | .one (.pl q n f), some l => match getR st.m q with
          | some rows => if q.isEmpty = false ∧ l.length = ti.size then some (q, n, f, rows, ti.szs, l) else none
          | none => none
        | _, _ => none
    | _, _, _ => none

theorem storeAt_step {np : Nat} {i n f : Nat} {q : Path} {rows rows' : Rows} {szs : List Nat} {ts : List T1} {t1 : List TV} (row : List C) (h : storeArgsAt Ty ops st i = some (q, n, f, rows, szs, ts))
    (hr : rows[n]? = some row) (hl : f + ts.length ≤ row.length) (hf : storeF q n szs f (row.drop f) ts st.t = some t1) (hrows : rows.set n (row.take f ++ ownCs szs ts ++ row.drop (f + ts.length)) = rows') :
    ∃ o, ops[i]? = some o ∧ wantT ops st o = some true ∧ step Ty np st o = some { t := t1, m := setR st.m q rows' } := by
  unfold storeArgsAt at h
  split at h
  · cases h
  rename_i o ho
  split at h
  · rename_i t p x hw hd hop
    split at h
    · cases h
    rename_i ti hti
    split at h
    · rename_i q' n' f' l' hp hx
      split at h
      · rename_i rows2 hg
        split at h
        · rename_i hc
          cases h
          have hall := storeF_all hf
          have hL := storeL_row (st := st) (szs := ti.szs) (f := f) (row := row) (ds := []) hf rfl hg hr hl
          rw [hrows, List.nil_append] at hL
          refine ⟨o, ho, hw, ?_⟩
          unfold step
          rw [hop]
          simp only [stepS, hti, hp, hx]
          rw [if_pos hc, hL]
          simp only [adoptL_none hall, Option.map_some, hd, St.put]
        · cases h
      · cases h
    · cases h
  · cases h

end
end Go.Mv

/- Slices of one's own handed on, where lengths are terms: what is to be shown is handed out as a list of equations. -/
namespace Go.Mv
open Go.RowKit

abbrev Obs := List (Nat × Nat)
def ObsOK : Obs → Prop
  | [] => True
  | (a, b) :: l => a = b ∧ ObsOK l

theorem ObsOK.append {a b : Obs} (h : ObsOK (a ++ b)) : ObsOK a ∧ ObsOK b := by
  induction a with
  | nil => exact ⟨trivial, h⟩
  | cons x a ih => exact ⟨⟨h.1, (ih h.2).1⟩, (ih h.2).2⟩

def fitsO : C → Option Nat → Option Obs
  | .sl _ rs, some n => some [(rs.length, n)]
  | .bx _, none => some []
  | _, _ => none

theorem fitsO_ok {c : C} {n : Option Nat} {o : Obs} (h : fitsO c n = some o) (ho : ObsOK o) : fits c n = true := by
  cases c <;> cases n <;> simp only [fitsO, fits] at h ⊢ <;> first | contradiction | rfl | skip
  cases h
  exact beq_iff_eq.2 ho.1

def adoptMO (m : Rows) (p : Path) (i f : Nat) (t : T1) : Option (Rows × Path × Obs) :=
  match srcOf t with
  | none => none
  | some (q1, i1, f1, n) => match getR m q1 with
    | none => none
    | some rows1 => match at2 rows1 i1 f1 with
      | none => none
      | some x => match fitsO x n with
        | none => none
        | some ob => match getR (setR m q1 (set2 rows1 i1 f1 .dead)) p with
          | none => none
          | some rows => match at2 rows i f with
            | none => none
            | some _ => some (setR (setR m q1 (set2 rows1 i1 f1 .dead)) p (set2 rows i f x), q1 ++ [(i1, f1)], ob)

theorem adoptMO_ok {m m' : Rows} {p src : Path} {i f : Nat} {t : T1} {ob : Obs} (h : adoptMO m p i f t = some (m', src, ob)) (ho : ObsOK ob) : adoptM m p i f t = some (m', src) := by
  unfold adoptMO at h
  unfold adoptM
  split at h
  · cases h
  · rename_i q1 i1 f1 n hs
    simp only [hs]
    split at h
    · cases h
    · rename_i rows1 h1
      simp only [h1]
      split at h
      · cases h
      · rename_i x h2
        simp only [h2]
        split at h
        · cases h
        · rename_i ob' hf
          split at h
          · cases h
          · rename_i rows h3
            split at h
            · cases h
            · rename_i c h4
              cases h
              rw [if_pos (fitsO_ok hf ho)]
              simp only [h3, h4]

def adoptLO (p : Path) (i : Nat) : Nat → St → Nat → List T1 → Option (St × Obs)
  | _, st, _, [] => some (st, [])
  | 0, _, _, _ :: _ => none
  | n + 1, st, f, t :: ts => match srcOf t with
    | none => adoptLO p i n st (f + 1) ts
    | some _ => match adoptMO st.m p i f t with
      | none => none
      | some (m', src, ob) => match adoptLO p i n { t := (st.t.map (TV.map1 (T1.forget src))).map (TV.map1 (T1.forget (p ++ [(i, f)]))), m := m' } (f + 1) (ts.map fun t => (T1.forget src t).forget (p ++ [(i, f)])) with
        | none => none
        | some (st', ob') => some (st', ob ++ ob')

theorem adoptLO_ok {p : Path} {i : Nat} : ∀ (n : Nat) (st st' : St) (f : Nat) (ts : List T1) (ob : Obs), adoptLO p i n st f ts = some (st', ob) → ObsOK ob → adoptL st p i f ts = some st'
  | 0, st, st', f, [], ob, h, _ => by simp only [adoptLO, Option.some.injEq, Prod.mk.injEq] at h; unfold adoptL; rw [h.1]
  | n + 1, st, st', f, [], ob, h, _ => by simp only [adoptLO, Option.some.injEq, Prod.mk.injEq] at h; unfold adoptL; rw [h.1]
  | 0, st, st', f, t :: ts, ob, h, _ => by simp [adoptLO] at h
  | n + 1, st, st', f, t :: ts, ob, h, ho => by
    unfold adoptL
    simp only [adoptLO] at h
    split at h
    · rename_i hs
      rw [hs]
      exact adoptLO_ok n st st' (f + 1) ts ob h ho
    · rename_i y hs
      rw [hs]
      simp only []
      split at h
      · cases h
      · rename_i m' src ob1 hm
        split at h
        · cases h
        · rename_i st2 ob2 hl
          cases h
          obtain ⟨o1, o2⟩ := ho.append
          rw [adoptMO_ok hm o1]
          exact adoptLO_ok n _ _ (f + 1) _ ob2 hl o2

def stepO (Ty : Types) (np : Nat) (st : St) (o : Oper) : Option (St × Obs) :=
  match o.op with
  | .store t p x => match Ty t with
    | none => none
    | some ti => match evT st p, cellsT (evT st x) with
      | .one (.pl q i f), some l => if q.isEmpty = false ∧ l.length = ti.size then match storeL st q i ti.szs f [] l with
          | none => none
          | some (st1, us) => (adoptLO q i us.length st1 f us).map fun (st', ob) => (st'.put o.dst (.one .unk), ob)
        else none
      | _, _ => none
  | .box e x => match o.dst, cellsT (evT st x) with
    | some d, some l => if np ≤ d ∧ (at2 st.m d 0).isSome = true then
        (adoptLO [(d, 0)] 0 l.length { t := st.t.map (TV.map1 (T1.forget [(d, 0)])), m := set2 st.m d 0 (.bx (ownCs (((Ty e).map (·.szs)).getD []) l)) } 0 (l.map (T1.forget [(d, 0)]))).map fun (st', ob) => (st'.put (some d) (.one (.pl [(d, 0)] 0 0)), ob)
      else none
    | _, _ => none
  | _ => none

theorem stepO_ok {Ty : Types} {np : Nat} {st st' : St} {o : Oper} {ob : Obs} (h : stepO Ty np st o = some (st', ob)) (ho : ObsOK ob) : step Ty np st o = some st' := by
  unfold stepO at h
  split at h
  · rename_i t p x hop
    split at h
    · cases h
    rename_i ti hti
    split at h
    · rename_i q i f l hp hx
      split at h
      · rename_i hc
        split at h
        · cases h
        · rename_i st1 us hs
          cases ha : adoptLO q i us.length st1 f us with
          | none => rw [ha] at h; cases h
          | some y =>
            obtain ⟨st2, ob2⟩ := y
            rw [ha] at h
            cases h
            have := adoptLO_ok _ _ _ _ _ _ ha ho
            unfold step
            rw [hop]
            simp only [stepS, hti, hp, hx]
            rw [if_pos hc, hs]
            simp only [this, Option.map_some]
      · cases h
    · cases h
  · rename_i e x hop
    split at h
    · rename_i d l hd hx
      split at h
      · rename_i hc
        cases ha : adoptLO [(d, 0)] 0 l.length { t := st.t.map (TV.map1 (T1.forget [(d, 0)])), m := set2 st.m d 0 (.bx (ownCs (((Ty e).map (·.szs)).getD []) l)) } 0 (l.map (T1.forget [(d, 0)])) with
        | none => rw [ha] at h; cases h
        | some y =>
          obtain ⟨st2, ob2⟩ := y
          rw [ha] at h
          cases h
          have := adoptLO_ok _ _ _ _ _ _ ha ho
          unfold step
          rw [hop]
          simp only [stepP, hd, stepA, hx, boxM]
          rw [if_pos hc, this]
          rfl
      · cases h
    · cases h
  · cases h

section
variable {P : Program} {Ty : Types} {B : Base} {S : Nat → Prop} {γ : Path → Option Loc} {st : St} {a : Act} {w : World} {Q : AQ} {ops : Array Oper}

def opO (Ty : Types) (np : Nat) (ops : Array Oper) (st : St) (i : Nat) : Option (St × Obs) :=
  match ops[i]? with
  | none => none
  | some o => match wantT ops st o with
    | some true => stepO Ty np st o
    | _ => none

/-! ### The end of a function that hands out what it owns, lengths being terms -/
def outTO (m : Rows) (row : List C) (ps : List Path) : T1 → Option (T1 × List C × List Path × Obs)
  | .so q i f n => match getR m q with
    | none => none
    | some rows => match at2 rows i f with
      | some (.sl sz rs) => some (.so [] 0 row.length n, row ++ [.sl sz rs], ps ++ [q ++ [(i, f)]], [(rs.length, n)])
      | _ => none
  | t => (outT m row ps t).map fun (t', r, p) => (t', r, p, [])

theorem outTO_ok {m : Rows} {row row' : List C} {ps ps' : List Path} {t t' : T1} {ob : Obs} (h : outTO m row ps t = some (t', row', ps', ob)) (ho : ObsOK ob) : outT m row ps t = some (t', row', ps') := by
  unfold outTO at h
  split at h
  · rename_i q i f n
    split at h
    · cases h
    · rename_i rows hg
      split at h
      · rename_i sz rs hc
        cases h
        unfold outT
        simp only [hg, hc]
        rw [if_pos ho.1]
      · cases h
  · cases hx : outT m row ps t with
    | none => rw [hx] at h; cases h
    | some y =>
      obtain ⟨a, b, c⟩ := y
      rw [hx] at h
      cases h
      rfl

def outTsO (m : Rows) (row : List C) (ps : List Path) : List T1 → Option (List T1 × List C × List Path × Obs)
  | [] => some ([], row, ps, [])
  | t :: ts => match outTO m row ps t with
    | none => none
    | some (t', row', ps', ob) => match outTsO m row' ps' ts with
      | none => none
      | some (ts', row'', ps'', ob') => some (t' :: ts', row'', ps'', ob ++ ob')

theorem outTsO_ok {m : Rows} : ∀ {ts : List T1} {row row' : List C} {ps ps' : List Path} {ts' : List T1} {ob : Obs}, outTsO m row ps ts = some (ts', row', ps', ob) → ObsOK ob → outTs m row ps ts = some (ts', row', ps')
  | [], _, _, _, _, _, _, h, _ => by simp only [outTsO, Option.some.injEq, Prod.mk.injEq] at h; obtain ⟨rfl, rfl, rfl, _⟩ := h; rfl
  | t :: ts, row, row', ps, ps', ts', ob, h, ho => by
    simp only [outTsO] at h
    split at h
    · cases h
    · rename_i t1 r1 p1 o1 h1
      split at h
      · cases h
      · rename_i ts2 r2 p2 o2 h2
        cases h
        obtain ⟨g1, g2⟩ := ho.append
        simp only [outTs, outTO_ok h1 g1, outTsO_ok h2 g2]

def outT2O (m : Rows) (row : List C) (ps : List Path) : T2 → Option (T2 × List C × List Path × Obs)
  | .one t => (outTO m row ps t).map fun (t', r) => (.one t', r)
  | .agg l => (outTsO m row ps l).map fun (l', r) => (.agg l', r)

def outT2sO (m : Rows) (row : List C) (ps : List Path) : List T2 → Option (List T2 × List C × List Path × Obs)
  | [] => some ([], row, ps, [])
  | t :: ts => match outT2O m row ps t with
    | none => none
    | some (t', row', ps', ob) => match outT2sO m row' ps' ts with
      | none => none
      | some (ts', row'', ps'', ob') => some (t' :: ts', row'', ps'', ob ++ ob')

theorem outT2O_ok {m : Rows} {row row' : List C} {ps ps' : List Path} {t t' : T2} {ob : Obs} (h : outT2O m row ps t = some (t', row', ps', ob)) (ho : ObsOK ob) : outT2 m row ps t = some (t', row', ps') := by
  cases t with
  | one t =>
    simp only [outT2O] at h
    cases hx : outTO m row ps t with
    | none => rw [hx] at h; cases h
    | some y =>
      obtain ⟨a, b, c, d⟩ := y
      rw [hx] at h
      cases h
      simp only [outT2, outTO_ok hx ho]
  | agg l =>
    simp only [outT2O] at h
    cases hx : outTsO m row ps l with
    | none => rw [hx] at h; cases h
    | some y =>
      obtain ⟨a, b, c, d⟩ := y
      rw [hx] at h
      cases h
      simp only [outT2, outTsO_ok hx ho]

theorem outT2sO_ok {m : Rows} : ∀ {ts : List T2} {row row' : List C} {ps ps' : List Path} {ts' : List T2} {ob : Obs}, outT2sO m row ps ts = some (ts', row', ps', ob) → ObsOK ob → outT2s m row ps ts = some (ts', row', ps')
  | [], _, _, _, _, _, _, h, _ => by simp only [outT2sO, Option.some.injEq, Prod.mk.injEq] at h; obtain ⟨rfl, rfl, rfl, _⟩ := h; rfl
  | t :: ts, row, row', ps, ps', ts', ob, h, ho => by
    simp only [outT2sO] at h
    split at h
    · cases h
    · rename_i t1 r1 p1 o1 h1
      split at h
      · cases h
      · rename_i ts2 r2 p2 o2 h2
        cases h
        obtain ⟨g1, g2⟩ := ho.append
        simp only [outT2s, outT2O_ok h1 g1, outT2sO_ok h2 g2]

def outVO (m : Rows) : TV → Option (TV × List C × List Path × Obs)
  | .one t => (outTO m [] [] t).map fun (t', r) => (.one t', r)
  | .agg l => (outTsO m [] [] l).map fun (l', r) => (.agg l', r)
  | .tup l => (outT2sO m [] [] l).map fun (l', r) => (.tup l', r)

theorem outVO_ok {m : Rows} {t t' : TV} {row : List C} {ps : List Path} {ob : Obs} (h : outVO m t = some (t', row, ps, ob)) (ho : ObsOK ob) : outV m t = some (t', row, ps) := by
  cases t with
  | one t =>
    simp only [outVO] at h
    cases hx : outTO m [] [] t with
    | none => rw [hx] at h; cases h
    | some y => obtain ⟨a, b, c, d⟩ := y; rw [hx] at h; cases h; simp only [outV, outTO_ok hx ho]
  | agg l =>
    simp only [outVO] at h
    cases hx : outTsO m [] [] l with
    | none => rw [hx] at h; cases h
    | some y => obtain ⟨a, b, c, d⟩ := y; rw [hx] at h; cases h; simp only [outV, outTsO_ok hx ho]
  | tup l =>
    simp only [outVO] at h
    cases hx : outT2sO m [] [] l with
    | none => rw [hx] at h; cases h
    | some y => obtain ⟨a, b, c, d⟩ := y; rw [hx] at h; cases h; simp only [outV, outT2sO_ok hx ho]

def endTO (Ty : Types) (st : St) (rs : List ResultVar) : Option (TV × List C × Obs) :=
  match resT Ty st rs with
  | none => none
  | some ts => match tupOf ts with
    | none => none
    | some t => match outVO st.m t with
      | none => none
      | some (res, row, ps, ob) => if apartPs ps then some (res, row, ob) else none

theorem end_own {rs : List ResultVar} {res res' : TV} {row row' : List C} {ob : Obs} (h : endTO Ty st rs = some (res', row', ob)) (ho : ObsOK ob) (e : res' = res) (er : row' = row) : endT Ty st rs = some (res, row) := by
  subst e er
  unfold endTO at h
  unfold endT
  split at h
  · cases h
  · rename_i ts hts
    simp only [hts]
    split at h
    · cases h
    · rename_i t ht
      simp only [ht]
      split at h
      · cases h
      · rename_i r1 w1 ps ob1 ho1
        split at h
        · rename_i hap
          cases h
          rw [outVO_ok ho1 ho]
          simp only [hap, if_true]
        · cases h
end
end Go.Mv

/- Function values: made, and called; what is owned is lent to them too. -/
namespace Go.Mv
open Go.RowKit

section
variable {P : Program} {Ty : Types} {B : Base} {S : Nat → Prop} {γ : Path → Option Loc} {st : St} {a : Act} {w : World} {Q : AQ} {ops : Array Oper}

end
end Go.Mv

/- Rules as the walk prints them: what is lent, clean rows. -/
namespace Go.Mv
open Go.RowKit

def cellAt (m : Rows) (q : Path) (i f : Nat) : Option C := (getR m q).bind fun rs => at2 rs i f

theorem lend_so {m : Rows} {q : Path} {i f n sz : Nat} {rows : Rows} (h : cellAt m q i f = some (.sl sz rows)) (hn : rows.length = n) : Lend1 m (.so q i f n) (.c (.sl sz rows)) := by
  unfold cellAt at h
  cases hq : getR m q with
  | none => rw [hq] at h; cases h
  | some rs => rw [hq] at h; exact .so hq h hn

theorem lend_bx {m : Rows} {p : Path} (q : Path) (i f : Nat) {row : List C} (hp : p = q ++ [(i, f)]) (h : cellAt m q i f = some (.bx row)) : Lend1 m (.pl p 0 0) (.c (.bx row)) := by
  subst hp
  unfold cellAt at h
  cases hq : getR m q with
  | none => rw [hq] at h; cases h
  | some rs => rw [hq] at h; exact .bx hq h

theorem clean_nil : CleanRows [[]] := fun r hr c hc => by
  simp only [List.mem_singleton] at hr
  subst hr
  cases hc

theorem get_map {α : Type} {xs : List α} {en : α → List C} {k : Nat} {y : α} (h : xs[k]? = some y) : (xs.map en)[k]? = some (en y) := by
  rw [List.getElem?_map, h]
  rfl
end Go.Mv

/- A struct that is lent by value, laid into a variable of the callee's own: the headers as values, and back. -/
namespace Go.Mv
open Go.RowKit

/-- The header of a slice of n elements at a place. -/
def hdrV : Option Loc → Nat → Value
  | some l, n => .slice (some ⟨l.b, l.off, none⟩) n l.cap
  | none, _ => .slice none 0 0

def toV (np : Nat) (g : Path → Option Loc) : T1 → T1
  | .so [] i f n => if i < np then .c (.v (hdrV (g [(i, f)]) n)) else .so [] i f n
  | t => t

section
variable {P : Program} {Ty : Types} {B : Base} {S : Nat → Prop} {γ : Path → Option Loc} {st : St} {a : Act} {w : World} {Q : AQ} {ops : Array Oper}

theorem so_to (hR : Rel B S γ st a w) {i f n sz : Nat} {rows : Rows} (hi : i < B.np) (hc : at2 st.m i f = some (.sl sz rows)) {x : Value} (hx : T1Val w S γ (.so [] i f n) x) : x = hdrV (B.g [(i, f)]) n := by
  have hf := hR.fix i f _ hi hc (by simp [C.rows])
  rcases hx with ⟨l, hl, hx, _⟩ | ⟨hl, _, hx⟩
  · simp only [List.nil_append] at hl
    rw [← hf, hl, hx]
    rfl
  · simp only [List.nil_append] at hl
    rw [← hf, hl, hx]
    rfl

theorem so_from (hR : Rel B S γ st a w) {i f n sz : Nat} {rows : Rows} (hi : i < B.np) (hc : at2 st.m i f = some (.sl sz rows)) (hn : rows.length = n) : T1Val w S γ (.so [] i f n) (hdrV (B.g [(i, f)]) n) := by
  have hf := hR.fix i f _ hi hc (by simp [C.rows])
  have hloc := hR.mem.loc [(i, f)] rows (by simp) (by simp [getR, hc, C.rows])
  cases hl : γ [(i, f)] with
  | none =>
    rw [hl] at hloc
    have h0 : rows = [] := hloc
    refine .inr ⟨by simpa using hl, by rw [← hn, h0]; rfl, ?_⟩
    rw [← hf, hl]
    rfl
  | some l =>
    rw [hl] at hloc
    refine .inl ⟨l, by simpa using hl, ?_, by rw [← hn]; exact hloc.2.1⟩
    rw [← hf, hl]
    rfl

theorem hdr_plain (l : Option Loc) (n : Nat) : plain (hdrV l n) = true := by cases l <;> rfl

def LentAll (st : St) (np : Nat) : List T1 → Prop
  | [] => True
  | .so [] i f n :: l => i < np ∧ (∃ sz rows, at2 st.m i f = some (.sl sz rows) ∧ rows.length = n) ∧ LentAll st np l
  | .c (.v _) :: l => LentAll st np l
  | _ :: _ => False

theorem LentAll.back {st2 : St} {S2 : Nat → Prop} {γ2 : Path → Option Loc} {w2 : World} {a2 : Act} (hR : Rel B S γ st a w) (hR2 : Rel B S2 γ2 st2 a2 w2) (hm : ∀ i f, i < B.np → at2 st2.m i f = at2 st.m i f) : ∀ {l : List T1} {xs : List Value}, LentAll st B.np l → All2 (T1Val w S γ) l xs → All2 (T1Val w2 S2 γ2) l xs
  | [], xs, _, h => by
    have : xs = [] := List.eq_nil_of_length_eq_zero (by rw [← h.1]; rfl)
    subst this
    exact .nil
  | .so [] i f n :: l, xs, h, hx => by
    obtain ⟨x, xs', rfl, g1, g2⟩ := hx.uncons
    obtain ⟨hi, ⟨sz, rows, hc, hn⟩, hl⟩ := h
    refine .cons ?_ (LentAll.back hR hR2 hm hl g2)
    have := so_to hR hi hc g1
    subst this
    exact so_from hR2 hi (by rw [hm i f hi]; exact hc) hn
  | .c (.v u) :: l, xs, h, hx => by
    obtain ⟨x, xs', rfl, g1, g2⟩ := hx.uncons
    have hr : RepF w S (.v u) x := g1
    refine .cons ?_ (LentAll.back hR hR2 hm (show LentAll st B.np l from h) g2)
    cases hr with
    | v hp => exact RepF.v hp

def cellV : T1 → C
  | .c (.v u) => .v u
  | _ => .dead

theorem LentAll.cells (hR : Rel B S γ st a w) : ∀ {l : List T1} {xs : List Value}, LentAll st B.np l → All2 (T1Val w S γ) l xs → All2 (fun c v => Hdr w S c none v) ((l.map (toV B.np B.g)).map cellV) xs
  | [], xs, _, h => by
    have : xs = [] := List.eq_nil_of_length_eq_zero (by rw [← h.1]; rfl)
    subst this
    exact .nil
  | .so [] i f n :: l, xs, h, hx => by
    obtain ⟨x, xs', rfl, g1, g2⟩ := hx.uncons
    obtain ⟨hi, ⟨sz, rows, hc, hn⟩, hl⟩ := h
    have := so_to hR hi hc g1
    subst this
    simp only [List.map_cons, toV, hi, if_true, cellV]
    exact .cons ⟨rfl, hdr_plain _ _⟩ (LentAll.cells hR hl g2)
  | .c (.v u) :: l, xs, h, hx => by
    obtain ⟨x, xs', rfl, g1, g2⟩ := hx.uncons
    have hr : RepF w S (.v u) x := g1
    refine .cons ?_ (LentAll.cells hR (show LentAll st B.np l from h) g2)
    cases hr with
    | v hp => exact ⟨rfl, hp⟩

end
end Go.Mv

/- Slots told otherwise while what is lent is lent on. -/
namespace Go.Mv
open Go.RowKit

section
variable {P : Program} {Ty : Types} {B : Base} {S : Nat → Prop} {γ : Path → Option Loc} {st : St} {a : Act} {w : World} {Q : AQ} {ops : Array Oper} {q : Path} {i f : Nat}

inductive Tell1 (B : Base) (st : St) : T1 → T1 → Prop
  | same {t : T1} : Tell1 B st t t
  | toV {i f n sz : Nat} {rows : Rows} : i < B.np → at2 st.m i f = some (.sl sz rows) → Tell1 B st (.so [] i f n) (.c (.v (hdrV (B.g [(i, f)]) n)))
  | ofV {i f n sz : Nat} {rows : Rows} : i < B.np → at2 st.m i f = some (.sl sz rows) → rows.length = n → Tell1 B st (.c (.v (hdrV (B.g [(i, f)]) n))) (.so [] i f n)

inductive TellL (B : Base) (st : St) : List T1 → List T1 → Prop
  | nil : TellL B st [] []
  | cons {t t' : T1} {l l' : List T1} : Tell1 B st t t' → TellL B st l l' → TellL B st (t :: l) (t' :: l')

inductive TellV (B : Base) (st : St) : TV → TV → Prop
  | one {t t' : T1} : Tell1 B st t t' → TellV B st (.one t) (.one t')
  | agg {l l' : List T1} : TellL B st l l' → TellV B st (.agg l) (.agg l')

theorem Tell1.val (hR : Rel B S γ st a w) {t t' : T1} (h : Tell1 B st t t') {x : Value} (hx : T1Val w S γ t x) : T1Val w S γ t' x := by
  cases h with
  | same => exact hx
  | toV hi hc =>
    have := so_to hR hi hc hx
    subst this
    exact RepF.v (hdr_plain _ _)
  | ofV hi hc hn =>
    have := one_v (γ := γ) (show TVVal w S γ (.one (.c (.v _))) x from hx)
    subst this
    exact so_from hR hi hc hn

theorem TellL.val (hR : Rel B S γ st a w) : ∀ {l l' : List T1} {xs : List Value}, TellL B st l l' → All2 (T1Val w S γ) l xs → All2 (T1Val w S γ) l' xs
  | _, _, xs, .nil, h => h
  | _, _, xs, .cons h1 h2, h => by
    obtain ⟨x, xs', rfl, g1, g2⟩ := h.uncons
    exact .cons (h1.val hR g1) (TellL.val hR h2 g2)

theorem TellV.val (hR : Rel B S γ st a w) {t t' : TV} (h : TellV B st t t') {x : Value} (hx : TVVal w S γ t x) : TVVal w S γ t' x := by
  cases h with
  | one h => exact h.val hR hx
  | agg h => obtain ⟨xs, rfl, hl⟩ := hx; exact ⟨xs, rfl, h.val hR hl⟩

end
end Go.Mv

/- The greater of two texts. -/
namespace Go.Mv
open Go.RowKit

section
variable {P : Program} {Ty : Types} {B : Base} {S : Nat → Prop} {γ : Path → Option Loc} {st : St} {a : Act} {w : World} {Q : AQ} {ops : Array Oper}

end
end Go.Mv

/- A slice of slices built out of what is owned (or only read), and lent at once to a callee that only reads: the new block is nobody's behind it. -/
namespace Go.Mv
open Go.RowKit

inductive LendC (m : Rows) : List T1 → List C → Prop
  | nil : LendC m [] []
  | cons {t : T1} {c : C} {l : List T1} {cs : List C} : Lend1 m t (.c c) → LendC m l cs → LendC m (t :: l) (c :: cs)

def notTmp (d : Nat) : Operand → Bool
  | .tmp k => !(k == d)
  | _ => true

inductive HoldVs (st : St) (d sz : Nat) (rows : Rows) : List Operand → List TV → Prop
  | nil : HoldVs st d sz rows [] []
  | hd {xs : List Operand} {A : List TV} : HoldVs st d sz rows xs A → HoldVs st d sz rows (.tmp d :: xs) (.one (.c (.sl sz rows)) :: A)
  | cons {x : Operand} {t t' : TV} {xs : List Operand} {A : List TV} : notTmp d x = true → evT st x = t → LendV st.m t t' → HoldVs st d sz rows xs A → HoldVs st d sz rows (x :: xs) (t' :: A)

section
variable {P : Program} {Ty : Types} {B : Base} {S : Nat → Prop} {γ : Path → Option Loc} {st : St} {a : Act} {w : World} {Q : AQ} {ops : Array Oper}

theorem alloc_size (w : World) (o : Obj) : (w.alloc o).heap.size = w.heap.size + 1 := by show (w.heap.push o).size = _; simp

theorem Rel.alloc (h : Rel B S γ st a w) (o : Obj) : Rel B S γ st a (w.alloc o) := by
  have hSw : ∀ b, S b → (w.alloc o).heap[b]? = w.heap[b]? := fun b hb => heap_push_lt w _ (h.lt b hb)
  refine ⟨h.sS, fun b hb => ?_, h.mem.frame (fun _ hb => hb) hSw (fun q rows l hq hr hl => ⟨heap_push_lt w _ (h.mem.lt hq hr hl), by
    have := h.mem.loc q rows hq hr
    rw [hl] at this
    exact this.1⟩), fun k t hk => TVVal.imp (fun _ _ ht => T1Val.frame (fun _ hb => hb) hSw ht) (h.tv k t hk), h.size, h.msize, h.defers, h.own, h.fix, h.fr.alloc _⟩
  have := h.lt b hb
  rw [alloc_size]
  omega

theorem LendC.val (hR : Rel B S γ st a w) : ∀ {l : List T1} {cs : List C} {xs : List Value}, LendC st.m l cs → All2 (T1Val w S γ) l xs → RepFs w (fun b => S b ∨ ownB st.m γ b) cs xs
  | _, _, xs, .nil, h => by
    have : xs = [] := List.eq_nil_of_length_eq_zero (by rw [← h.1]; rfl)
    subst this
    exact .nil
  | _, _, xs, .cons h1 h2, h => by
    obtain ⟨x, xs', rfl, g1, g2⟩ := h.uncons
    exact .cons (h1.val hR g1) (LendC.val hR h2 g2)

theorem eval_put_tmp {d : Nat} {v : Value} (h : d < a.tmps.size) : (a.put (some d) v).eval (.tmp d) = v := by
  simp [Act.put, Act.eval, Array.getD, h]

theorem eval_put_ne {d : Nat} {v : Value} {x : Operand} (h : notTmp d x = true) : (a.put (some d) v).eval x = a.eval x := by
  cases x with
  | tmp k =>
    have hk : d ≠ k := fun e => by subst e; simp [notTmp] at h
    simp only [Act.put, Act.eval, Array.getD_eq_getD_getElem?]
    rw [Array.getElem?_setIfInBounds_ne hk]
  | _ => rfl

theorem HoldVs.val (hR : Rel B S γ st a w) {w1 : World} {S1 : Nat → Prop} {d sz : Nat} {rows : Rows} {v : Value} (hS1 : ∀ b, S b ∨ ownB st.m γ b → S1 b) (hw1 : ∀ b, S b ∨ ownB st.m γ b → w1.heap[b]? = w.heap[b]?) (hd : d < a.tmps.size) (hv : RepF w1 S1 (.sl sz rows) v) :
    ∀ {xs : List Operand} {A : List TV}, HoldVs st d sz rows xs A → All2 (TVVal w1 S1 fun _ => none) A (xs.map (a.put (some d) v).eval)
  | _, _, .nil => .nil
  | _, _, .hd h => .cons (by rw [eval_put_tmp hd]; exact hv) (HoldVs.val hR hS1 hw1 hd hv h)
  | _, _, .cons hx he hl h => .cons (by
      rw [eval_put_ne hx]
      have := hR.evT (st := st) (a := a) ‹Operand›
      rw [he] at this
      exact TVVal.imp (fun _ _ ht => T1Val.frame hS1 hw1 ht) (hl.val hR this)) (HoldVs.val hR hS1 hw1 hd hv h)

/-! ### A slot told in other words -/
theorem rel_says {k : Nat} {t t' : TV} (h : st.t[k]? = some t) (e : t = t') (hR : RelE B st a w) : RelE B { st with t := st.t.set k t' } a w := by
  subst e
  have : st.t.set k t = st.t := by
    apply List.ext_getElem?
    intro j
    by_cases hk : k = j
    · subst hk
      rw [List.getElem?_set_self (List.getElem?_eq_some_iff.1 h).1, h]
    · rw [List.getElem?_set_ne hk]
  rw [this]
  exact hR

end
end Go.Mv

/- What is owned, lent or given to a callee that writes it: the contract in its general form, and the caller behind such a call. -/
namespace Go.Mv
open Go.RowKit

/-- What a call hands back that was lent the cells cs: what lies in their places behind it, and a value told over cells of its own. -/
structure RetG (w : World) (S : Nat → Prop) (cs : List C) (γ : Path → Option Loc) (w' : World) (outs : List C) (res : TV) (row : List C) (v : Value) : Prop where
  fr : Frame (baseIO w S [cs] γ) w'
  ex : ∃ S' γ' γr, (∀ b, S b → S' b) ∧ (∀ b, S' b → S b ∨ w.heap.size ≤ b) ∧ (∀ b, S' b → b < w'.heap.size) ∧ MemOK w' S' [outs] γ' ∧ MemOK w' S' [row] γr ∧ TVVal w' S' γr res v ∧
    (∀ k c, outs[k]? = some c → c.rows ≠ none → γ' [(0, k)] = γ [(0, k)]) ∧
    (∀ q rows l, q ≠ [] → getR [outs] q = some rows → γ' q = some l → OwnOK (baseIO w S [cs] γ) l) ∧
    (∀ q rows l, q ≠ [] → getR [row] q = some rows → γr q = some l → OwnOK (baseIO w S [cs] γ) l) ∧
    (∀ q rows l q' rows' l', q ≠ [] → getR [outs] q = some rows → γ' q = some l → q' ≠ [] → getR [row] q' = some rows' → γr q' = some l' → l.b ≠ l'.b)

/-- THE CONTRACT of a function that writes or takes what it is lent: 'cs' are the cells that it is lent, 'outs' what stands there behind it. -/
def CallG (P : Program) (f : FuncId) (cs : List C) (args : List TV) (outs : List C) (res : TV) (row : List C) : Prop :=
  ∀ (w : World) (S : Nat → Prop) (γ : Path → Option Loc) (vals : List Value), (∀ b, S b → b < w.heap.size) → MemOK w S [cs] γ → All2 (TVVal w S γ) args vals →
    Calls P f vals.toArray w fun e w' => ∃ v, e = .returned v ∧ RetG w S cs γ w' outs res row v

/-! ### The contract, from a walk -/
/-- Without the dead cells at its end. -/
def dropDead : List C → List C
  | [] => []
  | c :: cs => match dropDead cs with
    | [] => if isDead c then [] else [c]
    | l => c :: l

theorem dropDead_at : ∀ {l : List C} {k : Nat} {c : C}, (dropDead l)[k]? = some c → l[k]? = some c
  | [], k, c, h => by simp [dropDead] at h
  | x :: xs, k, c, h => by
    simp only [dropDead] at h
    split at h
    · split at h
      · simp at h
      · cases k with
        | zero => simpa using h
        | succ k => simp at h
    · rename_i hne
      cases k with
      | zero => simpa using h
      | succ k =>
        rw [List.getElem?_cons_succ] at h ⊢
        exact dropDead_at h

def outsOf (m : Rows) (ps : List Path) : Option (List C) :=
  match m with
  | [] => none
  | r :: _ => if ps.all (fun p => p.length == 1 || !rootIs 0 p) then some (dropDead (r.mapIdx fun k c => if ps.contains [(0, k)] then .dead else c)) else none

def endGT (Ty : Types) (st : St) (rs : List ResultVar) : Option (List C × TV × List C) :=
  match resT Ty st rs with
  | none => none
  | some ts => match tupOf ts with
    | none => none
    | some t => match outV st.m t with
      | none => none
      | some (res, row, ps) => if apartPs ps then match outsOf st.m ps with
        | none => none
        | some outs => some (outs, res, row)
        else none

def endG (Ty : Types) (rs : List ResultVar) (outs : List C) (res : TV) (row : List C) : AQ
  | .normal, st => endGT Ty st rs = some (outs, res, row)
  | .ret, st => endGT Ty st rs = some (outs, res, row)
  | _, _ => False

section
variable {P : Program} {Ty : Types} {B : Base} {S : Nat → Prop} {γ : Path → Option Loc} {st : St} {a : Act} {w : World}

theorem outsOf_at {m : Rows} {ps : List Path} {outs : List C} (h : outsOf m ps = some outs) {k : Nat} {c : C} (hc : outs[k]? = some c) :
    c = .dead ∨ (at2 m 0 k = some c ∧ [(0, k)] ∉ ps) := by
  unfold outsOf at h
  split at h
  · cases h
  · rename_i r m'
    split at h
    · cases h
      replace hc := dropDead_at hc
      rw [List.getElem?_mapIdx] at hc
      cases hr : r[k]? with
      | none => rw [hr] at hc; cases hc
      | some c0 =>
        rw [hr] at hc
        simp only [Option.map_some, Option.some.injEq] at hc
        split at hc
        · exact .inl hc.symm
        · rename_i hn
          subst hc
          exact .inr ⟨by simp [at2, hr], by simpa using hn⟩
    · cases h

theorem outsOf_roots {m : Rows} {ps : List Path} {outs : List C} (h : outsOf m ps = some outs) {p : Path} (hp : p ∈ ps) : p.length = 1 ∨ rootIs 0 p = false := by
  unfold outsOf at h
  split at h
  · cases h
  · split at h
    · rename_i hall
      rw [List.all_eq_true] at hall
      have := hall p hp
      simpa using this
    · cases h

theorem outs_path {m : Rows} {ps : List Path} {outs : List C} (h : outsOf m ps = some outs) {q : Path} {rows : Rows} (hq : q ≠ []) (hr : getR [outs] q = some rows) :
    getR m q = some rows ∧ ∀ p ∈ ps, p ≠ [] → ¬ p <+: q := by
  cases q with
  | nil => exact absurd rfl hq
  | cons x s =>
    obtain ⟨i, k⟩ := x
    simp only [getR] at hr
    cases hc : at2 [outs] i k with
    | none => rw [hc] at hr; cases hr
    | some c =>
      obtain ⟨rfl, hk⟩ := at2_one hc
      rw [hc] at hr
      rcases outsOf_at h hk with rfl | ⟨hm, hn⟩
      · cases hr
      · refine ⟨by simp only [getR, hm]; exact hr, fun p hp hne hpre => ?_⟩
        rcases outsOf_roots h hp with h1 | h1
        · cases p with
          | nil => simp at h1
          | cons y p =>
            have : p = [] := List.eq_nil_of_length_eq_zero (by simpa using h1)
            subst this
            rw [List.cons_prefix_cons] at hpre
            rw [hpre.1] at hp
            exact hn hp
        · cases p with
          | nil => exact hne rfl
          | cons y p =>
            rw [List.cons_prefix_cons] at hpre
            rw [hpre.1] at h1
            simp [rootIs] at h1

theorem outs_mem {m : Rows} {ps : List Path} {outs : List C} (hm : MemOK w S m γ) (h : outsOf m ps = some outs) : MemOK w S [outs] γ := by
  refine ⟨fun q rows hq hr => hm.loc q rows hq (outs_path h hq hr).1, fun q rows l i f c hq hr => hm.cell q rows l i f c hq (outs_path h hq hr).1, fun i f c hc => ?_,
    fun q q' rows rows' l l' hq hq' hr hr' => hm.inj q q' rows rows' l l' hq hq' (outs_path h hq hr).1 (outs_path h hq' hr').1⟩
  obtain ⟨rfl, hk⟩ := at2_one hc
  rcases outsOf_at h hk with rfl | ⟨h1, _⟩
  · exact ⟨.bool true, rfl⟩
  · exact hm.head 0 f c h1

/-- THE CONTRACT, from a walk of the body. -/
theorem callG {f : FuncId} {fn : Func} {c : Code} {cs : List C} {args : List TV} {outs : List C} {res : TV} {row : List C} (hTy : TyOK P Ty) (hf : P.funcs[f]? = some fn) (hb : fn.body = some c) (hl : 1 ≤ args.length)
    (h : ∀ w S γ, (∀ b, S b → b < w.heap.size) → AWp P (baseIO w S [cs] γ) c (endG Ty fn.results.toList outs res row) (enterIO [cs] args fn.ntmps)) : CallG P f cs args outs res row := by
  intro w S γ vals hS hm hv
  have key := h w S γ hS _ _ (enterIO_rel (n := fn.ntmps) hS hm hv hl)
  refine calls_of_wp hf hb (wp_mono key fun e a w' hq => ?_)
  have done : ∀ st, endGT Ty st fn.results.toList = some (outs, res, row) → RelE (baseIO w S [cs] γ) st a w' →
      a.defers = [] ∧ ∃ v, (results fn a.tmps).run P w' = .ok v w' ∧ ∃ u, Ending.returned v = .returned u ∧ RetG w S cs γ w' outs res row u := by
    intro st he hR
    unfold endGT at he
    split at he
    · cases he
    · rename_i ts hts
      split at he
      · cases he
      · rename_i t ht
        split at he
        · cases he
        · rename_i res' row' ps ho
          split at he
          · rename_i hap
            split at he
            · cases he
            · rename_i outs' hos
              cases he
              obtain ⟨S1, γ1, hR1, hSn⟩ := hR
              obtain ⟨v, h1, h2⟩ := results_run hTy hR1 hts ht
              obtain ⟨hH, hval⟩ := outV_val hR1.mem ho h2
              refine ⟨hR1.defers, v, h1, v, rfl, hR1.fr, S1, γ1, handG γ1 ps, hR1.sS, hSn, hR1.lt, outs_mem hR1.mem hos, hR1.mem.hand hH hap, hval, fun k c hk hr => ?_, fun q rows l hq hr hl => hR1.own q rows l hq (outs_path hos hq hr).1 hl,
                fun q rows l hq hr hl => ?_, fun q rows l q' rows' l' hq hr hl hq' hr' hl' hb => ?_⟩
              · rcases outsOf_at hos hk with rfl | ⟨h3, _⟩
                · exact absurd rfl hr
                · exact hR1.fix 0 k c (Nat.lt_of_lt_of_le Nat.zero_lt_one (by simp [baseIO])) h3 hr
              · obtain ⟨j, s, p, rfl, hp, hne, hr⟩ := getR_handed hH hq hr
                exact hR1.own _ rows l (by simp [hne]) hr (by simpa [handG, hp] using hl)
              · obtain ⟨j, s, p, rfl, hp, hne, hr'⟩ := getR_handed hH hq' hr'
                obtain ⟨g1, g2⟩ := outs_path hos hq hr
                have := hR1.mem.inj q (p ++ s) rows rows' l l' hq (by simp [hne]) g1 hr' hl (by simpa [handG, hp] using hl') hb
                exact g2 p (List.mem_of_getElem? hp) hne (this ▸ List.prefix_append p s)
          · cases he
  cases e with
  | normal => obtain ⟨st, h1, h2⟩ := hq; exact done st h1 h2
  | ret => obtain ⟨st, h1, h2⟩ := hq; exact done st h1 h2
  | panic c => exact hq.elim
  | outgrown => exact hq.elim
  | exit id => obtain ⟨st, h1, h2⟩ := hq; exact h1
  | goto l => obtain ⟨st, h1, h2⟩ := hq; exact h1

/-! ### The places that are lent, emptied and filled again -/
def killP (st : St) : List Path → Option St
  | [] => some st
  | p :: ps => if p.isEmpty then killP st ps else match p.getLast? with
    | none => none
    | some (i, f) => match getR st.m p.dropLast with
      | none => none
      | some rows => match at2 rows i f with
        | none => none
        | some _ => killP { t := st.t.map (TV.map1 (T1.forget p)), m := setR st.m p.dropLast (set2 rows i f .dead) } ps

def putP (st : St) : List Path → List C → Option St
  | _, [] => some st
  | [], _ :: _ => none
  | p :: ps, x :: xs => if isDead x then putP st ps xs else match p.getLast? with
    | none => none
    | some (i, f) => match getR st.m p.dropLast with
      | none => none
      | some rows => match at2 rows i f with
        | none => none
        | some _ => putP { t := st.t.map (TV.map1 (T1.forget p)), m := setR st.m p.dropLast (set2 rows i f x) } ps xs

theorem last_snoc {p : Path} {x : Nat × Nat} (h : p.getLast? = some x) : p = p.dropLast ++ [x] := by
  have hne : p ≠ [] := fun e => by subst e; cases h
  have e := List.dropLast_concat_getLast hne
  rw [List.getLast?_eq_some_getLast hne] at h
  simp only [Option.some.injEq] at h
  rw [h] at e
  exact e.symm

theorem killP_rel : ∀ (ps : List Path) (γ0 : Path → Option Loc) (st0 stk : St), Rel B S γ0 st0 a w → killP st0 ps = some stk → ∃ γk, Rel B S γk stk a w ∧ (∀ p, (∀ p' ∈ ps, p' ≠ [] → ¬ p' <+: p) → γk p = γ0 p) ∧
    ∀ p rs, p ≠ [] → getR stk.m p = some rs → ∃ rs0, getR st0.m p = some rs0 ∧ ∀ p' ∈ ps, p' ≠ [] → ¬ p' <+: p
  | [], γ0, st0, stk, hR, h => by
    cases h
    exact ⟨γ0, hR, fun _ _ => rfl, fun p rs _ hr => ⟨rs, hr, fun _ hp => by cases hp⟩⟩
  | p0 :: ps, γ0, st0, stk, hR, h => by
    simp only [killP] at h
    split at h
    · rename_i he
      have he : p0 = [] := by cases p0 <;> simp_all
      obtain ⟨γk, h1, h2, h3⟩ := killP_rel ps _ _ stk hR h
      refine ⟨γk, h1, fun p hp => h2 p fun p' hp' => hp p' (List.mem_cons_of_mem _ hp'), fun p rs hp hr => ?_⟩
      obtain ⟨rs0, g1, g2⟩ := h3 p rs hp hr
      refine ⟨rs0, g1, fun p' hp' hne => ?_⟩
      rcases List.mem_cons.1 hp' with rfl | hp'
      · exact absurd he hne
      · exact g2 p' hp' hne
    · rename_i hne0
      have hne0 : p0 ≠ [] := by cases p0 <;> simp_all
      split at h
      · cases h
      · rename_i i f hl
        have hp0 := last_snoc hl
        generalize hq0 : p0.dropLast = q at *
        split at h
        · cases h
        · rename_i rows hq
          split at h
          · cases h
          · rename_i c0 hc
            have hkill := hR.mem.kill hq hc
            have hR1 := hR.putM (x := .dead) (δ := fun _ => none) hkill hq hc (fun _ _ => rfl) (Nat.le_refl _) hR.fr (fun s rs l hg => by simp [getX, C.rows] at hg) (fun _ _ hd => absurd rfl hd)
            rw [← hp0] at hR1
            obtain ⟨γk, h1, h2, h3⟩ := killP_rel ps _ _ stk hR1 h
            refine ⟨γk, h1, fun p hp => ?_, fun p rs hp hr => ?_⟩
            · rw [h2 p fun p' hp' => hp p' (List.mem_cons_of_mem _ hp'), putG_not (by rw [← hp0]; exact hp p0 (by simp) hne0)]
            · obtain ⟨rs1, g1, g2⟩ := h3 p rs hp hr
              rcases @getR_put st0.m rows q i f .dead c0 hq hc p rs1 g1 with ⟨s, _, hg⟩ | ⟨hn, rs0, hg0, _⟩
              · simp [getX, C.rows] at hg
              · refine ⟨rs0, hg0, fun p' hp' hne => ?_⟩
                rcases List.mem_cons.1 hp' with rfl | hp'
                · rw [hp0]; exact hn
                · exact g2 p' hp' hne

theorem putP_rel {w' : World} {γ' : Path → Option Loc} {outs : List C} {pls : List Path} (hm : MemOK w' S [outs] γ') (hap : ∀ (j j' : Nat) (p p' : Path), pls[j]? = some p → pls[j']? = some p' → p ≠ [] → p' ≠ [] → p <+: p' → j = j') :
    ∀ (xs : List C) (ps : List Path) (k : Nat) (γc : Path → Option Loc) (stc stf : St), outs.drop k = xs → pls.drop k = ps → Rel B S γc stc a w' → putP stc ps xs = some stf →
    (∀ j x q i f l, outs[j]? = some x → isDead x = false → pls[j]? = some (q ++ [(i, f)]) → q ≠ [] → γc q = some l → ∃ v, Hdr w' S x (γ' [(0, j)]) v ∧ w'.cell? ⟨l.b, l.off + i * l.sz + f, none⟩ = some v) →
    (∀ p rs l, p ≠ [] → getR stc.m p = some rs → γc p = some l → ∀ j s rs' l', k ≤ j → getR [outs] ((0, j) :: s) = some rs' → γ' ((0, j) :: s) = some l' → l.b ≠ l'.b) →
    (∀ j s rs' l', getR [outs] ((0, j) :: s) = some rs' → γ' ((0, j) :: s) = some l' → OwnOK B l') →
    (∀ j x i f, outs[j]? = some x → x.rows ≠ none → pls[j]? = some [(i, f)] → i < B.np → γ' [(0, j)] = B.g [(i, f)]) →
    ∃ γf, Rel B S γf stf a w' ∧ (∀ p, (∀ j p', k ≤ j → pls[j]? = some p' → p' ≠ [] → ¬ p' <+: p) → γf p = γc p) ∧ (∀ j x p, k ≤ j → outs[j]? = some x → isDead x = false → pls[j]? = some p → γf p = γ' [(0, j)]) ∧
      (∀ p rs, p ≠ [] → getR stf.m p = some rs → (∃ rs0, getR stc.m p = some rs0 ∧ γf p = γc p) ∨ ∃ j s p' rs', k ≤ j ∧ pls[j]? = some p' ∧ p = p' ++ s ∧ getR [outs] ((0, j) :: s) = some rs' ∧ γf p = γ' ((0, j) :: s))
  | [], ps, k, γc, stc, stf, hx, _, hR, h, _, _, _, _ => by
    simp only [putP, Option.some.injEq] at h
    subst h
    refine ⟨γc, hR, fun _ _ => rfl, fun j x p hj ho => ?_, fun p rs _ hr => .inl ⟨rs, hr, rfl⟩⟩
    have := List.getElem?_drop (xs := outs) (i := k) (j := j - k)
    rw [hx, show k + (j - k) = j by omega, ho] at this
    simp at this
  | x :: xs, [], k, γc, stc, stf, _, _, _, h, _, _, _, _ => by simp [putP] at h
  | x :: xs, p0 :: ps, k, γc, stc, stf, hx, hpl, hR, h, hh, hapm, hown, hfix => by
    have hk : outs[k]? = some x := by
      have := List.getElem?_drop (xs := outs) (i := k) (j := 0)
      rw [hx] at this
      simpa using this.symm
    have hpk : pls[k]? = some p0 := by
      have := List.getElem?_drop (xs := pls) (i := k) (j := 0)
      rw [hpl] at this
      simpa using this.symm
    have hx' : outs.drop (k + 1) = xs := by rw [← List.drop_drop, hx]; rfl
    have hpl' : pls.drop (k + 1) = ps := by rw [← List.drop_drop, hpl]; rfl
    simp only [putP] at h
    split at h
    · rename_i hdx
      obtain ⟨γf, g1, g2, g3, g4⟩ := putP_rel hm hap xs ps (k + 1) γc stc stf hx' hpl' hR h hh (fun p rs l hp hr hl j s rs' l' hj => hapm p rs l hp hr hl j s rs' l' (by omega)) hown hfix
      refine ⟨γf, g1, fun p hp => g2 p fun j p' hj => hp j p' (by omega), fun j y p hj ho hd hp => ?_, fun p rs hp hr => ?_⟩
      · by_cases he : j = k
        · subst he
          rw [hk] at ho
          cases ho
          rw [hdx] at hd
          cases hd
        · exact g3 j y p (by omega) ho hd hp
      · rcases g4 p rs hp hr with h1 | ⟨j, s, p', rs', h1, h2⟩
        · exact .inl h1
        · exact .inr ⟨j, s, p', rs', by omega, h2⟩
    · rename_i hdx
      have hdx : isDead x = false := by simpa using hdx
      split at h
      · cases h
      · rename_i i f hl0
        have hp0 := last_snoc hl0
        have hne0 : p0 ≠ [] := by rw [hp0]; simp
        generalize hq0 : p0.dropLast = q at *
        split at h
        · cases h
        · rename_i rows hq
          split at h
          · cases h
          · rename_i c0 hc
            have hat : at2 [outs] 0 k = some x := by simpa [at2] using hk
            obtain ⟨v, hv, hnew⟩ : ∃ v, Hdr w' S x (γ' [(0, k)]) v ∧ ∀ l, q ≠ [] → γc q = some l → w'.cell? ⟨l.b, l.off + i * l.sz + f, none⟩ = some v := by
              by_cases hne : q = []
              · obtain ⟨v, hv⟩ := hm.head 0 k x hat
                exact ⟨v, hv, fun _ hn => absurd hne hn⟩
              · cases hl : γc q with
                | none =>
                  have := hR.mem.loc q rows hne hq
                  rw [hl] at this
                  rw [(show rows = [] from this)] at hc
                  simp [at2] at hc
                | some l =>
                  obtain ⟨v, h1, h2⟩ := hh k x q i f l hk hdx (by rw [← hp0]; exact hpk) hne hl
                  exact ⟨v, h1, fun l' _ hl' => by cases hl'; exact h2⟩
            have hdet : Det w' S x (fun s => γ' ((0, k) :: s)) v := hm.det (q := []) rfl hat hv
            have hX : ∀ s, getR [outs] ((0, k) :: s) = getX x s := fun s => by have := getX_of (q := []) (mem := [outs]) rfl hat s; rwa [List.nil_append] at this
            have hapx : Apart stc.m γc x (fun s => γ' ((0, k) :: s)) := fun p rs l s rs' l' hp hr hl hs hl' => hapm p rs l hp hr hl k s rs' l' (Nat.le_refl _) (by rw [hX]; exact hs) hl'
            have hput := hR.mem.put_core hdet hapx hq hc (fun _ _ _ _ _ _ cells _ _ hh => ⟨cells, hh, rfl⟩) (fun _ _ _ _ _ _ _ _ _ _ _ => rfl) hnew (fun _ _ => rfl)
            have hR1 := hR.putM hput hq hc (fun _ _ => rfl) (Nat.le_refl _) hR.fr (fun s rs l hs hl => hown k s rs l (by rw [hX]; exact hs) hl)
              (fun h1 h2 h3 => hfix k x i f hk h3 (by rw [hpk, hp0, h1]; rfl) h2)
            rw [← hp0] at hR1
            have hA : ∀ j y q' i' f' l, outs[j]? = some y → isDead y = false → pls[j]? = some (q' ++ [(i', f')]) → q' ≠ [] → putG γc q i f (fun s => γ' ((0, k) :: s)) q' = some l → ∃ v, Hdr w' S y (γ' [(0, j)]) v ∧ w'.cell? ⟨l.b, l.off + i' * l.sz + f', none⟩ = some v := by
              intro j y q' i' f' l hj hd hpj hne hl
              rw [putG_not (fun hpre => by
                have hpre' : p0 <+: q' ++ [(i', f')] := by rw [hp0]; exact hpre.trans (List.prefix_append _ _)
                have hjk := hap k j p0 _ hpk hpj hne0 (by simp) hpre'
                subst hjk
                rw [hpk] at hpj
                cases hpj
                have e1 := List.append_inj' hp0 rfl
                have := hpre.length_le
                rw [← e1.1] at this
                simp at this
                omega)] at hl
              exact hh j y q' i' f' l hj hd hpj hne hl
            have hB : ∀ p rs l, p ≠ [] → getR (setR stc.m q (set2 rows i f x)) p = some rs → putG γc q i f (fun s => γ' ((0, k) :: s)) p = some l → ∀ j s rs' l', k + 1 ≤ j → getR [outs] ((0, j) :: s) = some rs' → γ' ((0, j) :: s) = some l' → l.b ≠ l'.b := by
              intro p rs l hp hr hl j s rs' l' hj hs hl'
              rcases @getR_put stc.m rows q i f x c0 hq hc p rs hr with ⟨s2, rfl, hg⟩ | ⟨hn, rs0, hg0, _⟩
              · rw [putG_at] at hl
                intro hb
                have := hm.inj ((0, k) :: s2) ((0, j) :: s) rs rs' l l' (by simp) (by simp) (by rw [hX]; exact hg) hs hl hl' hb
                simp at this
                omega
              · rw [putG_not hn] at hl
                exact hapm p rs0 l hp hg0 hl j s rs' l' (by omega) hs hl'
            obtain ⟨γf, g1, g2, g3, g4⟩ := putP_rel hm hap xs ps (k + 1) _ _ stf hx' hpl' hR1 h hA hB hown hfix
            refine ⟨γf, g1, fun p hp => ?_, fun j y p hj ho hd hpj => ?_, fun p rs hp hr => ?_⟩
            · rw [g2 p fun j p' hj => hp j p' (by omega), putG_not (by rw [← hp0]; exact hp k p0 (Nat.le_refl _) hpk hne0)]
            · by_cases he : j = k
              · subst he
                rw [hpk] at hpj
                obtain rfl : p0 = p := Option.some.inj hpj
                rw [g2 p0 fun j' p' hj' hp' hne hpre => by have := hap j' j p' p0 hp' hpk hne hne0 hpre; omega]
                rw [hp0]
                have := putG_at γc q i f (fun s => γ' ((0, j) :: s)) []
                exact this
              · exact g3 j y p (by omega) ho hd hpj
            · rcases g4 p rs hp hr with ⟨rs0, h1, h2⟩ | ⟨j, s, p', rs', h1, h2⟩
              · rcases @getR_put stc.m rows q i f x c0 hq hc p rs0 h1 with ⟨s2, rfl, hg⟩ | ⟨hn, rs1, hg0, _⟩
                · exact .inr ⟨k, s2, p0, rs0, Nat.le_refl _, hpk, by rw [hp0]; simp, by rw [hX]; exact hg, by rw [h2, putG_at]⟩
                · exact .inl ⟨rs1, hg0, by rw [h2, putG_not hn]⟩
              · exact .inr ⟨j, s, p', rs', by omega, h2⟩
end
end Go.Mv

/- The caller behind a call that wrote or took what it was lent. -/
namespace Go.Mv
open Go.RowKit

def T1.path : T1 → Option Path
  | .pl p _ _ => some p
  | .so q i f _ => some (q ++ [(i, f)])
  | .sp p _ _ => some p
  | _ => none

section
variable {P : Program} {Ty : Types} {B : Base} {S : Nat → Prop} {γ : Path → Option Loc} {st : St} {a : Act} {w : World}

theorem T1Val.at {γ' : Path → Option Loc} : ∀ {t : T1} {x : Value}, T1Val w S γ t x → (∀ p, t.path = some p → γ' p = γ p) → T1Val w S γ' t x
  | .unk, _, _, _ => trivial
  | .c _, _, h, _ => h
  | .fp _ _, _, h, _ => h
  | .pl p i f, x, h, hp => by
    show ∃ l, γ' p = some l ∧ _
    rw [hp p rfl]
    exact h
  | .so q i f n, x, h, hp => by
    show (∃ l, γ' (q ++ [(i, f)]) = some l ∧ _) ∨ (γ' (q ++ [(i, f)]) = none ∧ _)
    rw [hp _ rfl]
    exact h
  | .sp p lo n, x, h, hp => by
    show (∃ l cap, γ' p = some l ∧ _) ∨ _
    rw [hp p rfl]
    exact h

/-- What leads below one of the places is forgotten. -/
def T1.forgetAll (ps : List Path) (t : T1) : T1 :=
  match t.path with
  | none => t
  | some p => if ps.any (fun p' => !p'.isEmpty && mayPre p' p) then .unk else t

def exactT (ps : List Path) (outs : List C) (t : T1) : Bool :=
  match t.path with
  | none => false
  | some p => (ps.zip outs).any fun x => !x.1.isEmpty && !isDead x.2 && (mayPre x.1 p && mayPre p x.1 && x.1 == p)

def T1.again (ps : List Path) (outs : List C) (t : T1) : T1 := if exactT ps outs t then t else t.forgetAll ps

def St.gback (st : St) (ps : List Path) (outs : List C) (m : Rows) : St := { t := st.t.map (TV.map1 (T1.again ps outs)), m := m }

theorem T1.forgetAll_val {γ' : Path → Option Loc} {ps : List Path} {t : T1} {x : Value} (h : T1Val w S γ t x) (hγ : ∀ p, (∀ p' ∈ ps, p' ≠ [] → ¬ p' <+: p) → γ' p = γ p) : T1Val w S γ' (t.forgetAll ps) x := by
  unfold T1.forgetAll
  split
  · rename_i hp
    exact h.at fun p hp' => by rw [hp] at hp'; cases hp'
  · rename_i p hp
    split
    · trivial
    · rename_i hn
      refine h.at fun p1 hp1 => ?_
      rw [hp] at hp1
      cases hp1
      refine hγ p fun p' hp' hne hpre => hn ?_
      rw [List.any_eq_true]
      refine ⟨p', hp', ?_⟩
      rw [mayPre_of hpre]
      cases p' with
      | nil => exact absurd rfl hne
      | cons y q => rfl

/-- A nil slice is given where the place is []. -/
def HandedN (m : Rows) (row : List C) (ps : List Path) : Prop :=
  row.length = ps.length ∧ ∀ (j : Nat) (c : C) (p : Path), row[j]? = some c → ps[j]? = some p → (p = [] ∧ ∃ sz, c = .sl sz []) ∨ ∃ q i f rows, p = q ++ [(i, f)] ∧ getR m q = some rows ∧ at2 rows i f = some c

def handN (γ : Path → Option Loc) (ps : List Path) : Path → Option Loc
  | (0, j) :: s => (ps[j]?).bind fun p => if p.isEmpty then none else γ (p ++ s)
  | _ => none

def apartN (ps : List Path) : Bool := apartPs (ps.filter fun p => !p.isEmpty)

def ApartN (ps : List Path) : Prop := ∀ (j j' : Nat) (p p' : Path), ps[j]? = some p → ps[j']? = some p' → p ≠ [] → p' ≠ [] → p <+: p' → j = j'

theorem apartN_spec : ∀ {ps : List Path}, apartN ps = true → ApartN ps
  | [], _, j, j', p, p', h, _, _, _, _ => by simp at h
  | x :: ps, h, j, j', p, p', hj, hj', hp0, hp0', hp => by
    have hmem : ∀ (j : Nat) (p : Path), ps[j]? = some p → p ≠ [] → p ∈ ps.filter fun p => !p.isEmpty := fun j p hj hne => by
      rw [List.mem_filter]
      exact ⟨List.mem_of_getElem? hj, by cases p <;> simp_all⟩
    have ht : apartN ps = true := by
      unfold apartN at h ⊢
      rw [List.filter_cons] at h
      split at h
      · simp only [apartPs, Bool.and_eq_true] at h; exact h.2
      · exact h
    have hx : x ≠ [] → ∀ p ∈ ps.filter (fun p => !p.isEmpty), mayPre x p = false ∧ mayPre p x = false := fun hne p hp => by
      unfold apartN at h
      rw [List.filter_cons, if_pos (by cases x <;> simp_all)] at h
      simp only [apartPs, Bool.and_eq_true, List.all_eq_true, Bool.not_eq_true'] at h
      exact h.1 p hp
    cases j with
    | zero =>
      simp at hj
      subst hj
      cases j' with
      | zero => rfl
      | succ j' =>
        simp at hj'
        have := (hx hp0 p' (hmem j' p' hj' hp0')).1
        rw [mayPre_of hp] at this
        cases this
    | succ j =>
      simp at hj
      cases j' with
      | zero =>
        simp at hj'
        subst hj'
        have := (hx hp0' p (hmem j p hj hp0)).2
        rw [mayPre_of hp] at this
        cases this
      | succ j' =>
        simp at hj'
        rw [apartN_spec ht j j' p p' hj hj' hp0 hp0' hp]

theorem getR_handedN {m : Rows} {row : List C} {ps : List Path} (hH : HandedN m row ps) {q : Path} {rows : Rows} (hq : q ≠ []) (h : getR [row] q = some rows) :
    ∃ j s p, q = (0, j) :: s ∧ ps[j]? = some p ∧ ((p = [] ∧ rows = []) ∨ (p ≠ [] ∧ getR m (p ++ s) = some rows)) := by
  cases q with
  | nil => exact absurd rfl hq
  | cons x s =>
    obtain ⟨i, j⟩ := x
    simp only [getR] at h
    cases hc : at2 [row] i j with
    | none => rw [hc] at h; cases h
    | some c =>
      obtain ⟨rfl, hrow⟩ := at2_one hc
      have hj : j < ps.length := by rw [← hH.1]; exact (List.getElem?_eq_some_iff.1 hrow).1
      refine ⟨j, s, ps[j], rfl, List.getElem?_eq_getElem hj, ?_⟩
      rw [hc] at h
      rcases hH.2 j c _ hrow (List.getElem?_eq_getElem hj) with ⟨he, sz, rfl⟩ | ⟨q', i', f', rows', he, hq', hc'⟩
      · refine .inl ⟨he, ?_⟩
        simp only [Option.bind_some, C.rows] at h
        cases s with
        | nil => simpa [getR] using h.symm
        | cons y s => obtain ⟨a, b⟩ := y; simp [getR, at2] at h
      · refine .inr ⟨by rw [he]; simp, ?_⟩
        rw [he, List.append_assoc, List.singleton_append, getX_of hq' hc']
        exact h

theorem handN_at {ps : List Path} {j : Nat} {s p : Path} (hp : ps[j]? = some p) : handN γ ps ((0, j) :: s) = if p.isEmpty then none else γ (p ++ s) := by simp [handN, hp]

theorem handN_ne {ps : List Path} {j : Nat} {s p : Path} (hp : ps[j]? = some p) (hne : p ≠ []) : handN γ ps ((0, j) :: s) = γ (p ++ s) := by
  rw [handN_at hp, if_neg (by cases p <;> simp_all)]

theorem handN_nil {ps : List Path} {j : Nat} {s p : Path} (hp : ps[j]? = some p) (he : p = []) : handN γ ps ((0, j) :: s) = none := by rw [handN_at hp, he]; rfl

theorem MemOK.handN {m : Rows} {row : List C} {ps : List Path} (h : MemOK w S m γ) (hH : HandedN m row ps) (hap : ApartN ps) : MemOK w S [row] (handN γ ps) := by
  refine ⟨fun q rows hq hr => ?_, fun q rows l i f c hq hr hl hc => ?_, fun i f c hc => ?_, fun q q' rows rows' l l' hq hq' hr hr' hl hl' hb => ?_⟩
  · obtain ⟨j, s, p, rfl, hp, ⟨he, rfl⟩ | ⟨hne, hr⟩⟩ := getR_handedN hH hq hr
    · rw [handN_nil hp he]; exact (rfl : ([] : Rows) = [])
    · rw [handN_ne hp hne]; exact h.loc _ rows (by simp [hne]) hr
  · obtain ⟨j, s, p, rfl, hp, ⟨he, rfl⟩ | ⟨hne, hr⟩⟩ := getR_handedN hH hq hr
    · rw [handN_nil hp he] at hl; cases hl
    · rw [handN_ne hp hne] at hl
      obtain ⟨x, h1, h2⟩ := h.cell _ rows l i f c (by simp [hne]) hr hl hc
      refine ⟨x, h1, ?_⟩
      rw [List.cons_append, handN_ne hp hne, ← List.append_assoc]
      exact h2
  · obtain ⟨rfl, hrow⟩ := at2_one hc
    have hj : f < ps.length := by rw [← hH.1]; exact (List.getElem?_eq_some_iff.1 hrow).1
    rcases hH.2 f c _ hrow (List.getElem?_eq_getElem hj) with ⟨he, sz, rfl⟩ | ⟨q', i', f', rows', he, hq', hc'⟩
    · rw [handN_nil (List.getElem?_eq_getElem hj) he]; exact ⟨.slice none 0 0, rfl, rfl⟩
    · obtain ⟨y, hy⟩ := h.someHdr hq' hc'
      refine ⟨y, ?_⟩
      rw [handN_ne (List.getElem?_eq_getElem hj) (by rw [he]; simp), he, List.append_nil]
      exact hy
  · obtain ⟨j, s, p, rfl, hp, ⟨he, rfl⟩ | ⟨hne, hr⟩⟩ := getR_handedN hH hq hr
    · rw [handN_nil hp he] at hl; cases hl
    · obtain ⟨j', s', p', rfl, hp', ⟨he', rfl⟩ | ⟨hne', hr'⟩⟩ := getR_handedN hH hq' hr'
      · rw [handN_nil hp' he'] at hl'; cases hl'
      · rw [handN_ne hp hne] at hl
        rw [handN_ne hp' hne'] at hl'
        have he := h.inj _ _ rows rows' l l' (by simp [hne]) (by simp [hne']) hr hr' hl hl' hb
        have hpre : p <+: p' ∨ p' <+: p := List.prefix_or_prefix_of_prefix (List.prefix_append p s) (he ▸ List.prefix_append p' s')
        have hjj : j = j' := by
          rcases hpre with h1 | h1
          · exact hap j j' p p' hp hp' hne hne' h1
          · exact (hap j' j p' p hp' hp hne' hne h1).symm
        subst hjj
        rw [hp] at hp'
        cases hp'
        rw [List.append_cancel_left he]

inductive GV1 (ps : List Path) : T1 → T1 → Prop
  | same {t : T1} : closed1 t = true → GV1 ps t t
  | so (k : Nat) {q : Path} {i f n : Nat} : ps[k]? = some (q ++ [(i, f)]) → GV1 ps (.so q i f n) (.so [] 0 k n)
  | pl (k : Nat) {p : Path} : ps[k]? = some p → p.isEmpty = false → GV1 ps (.pl p 0 0) (.pl [(0, k)] 0 0)
  | nil (k : Nat) : ps[k]? = some [] → GV1 ps (.c (.v (.slice none 0 0))) (.so [] 0 k 0)

inductive GVL (ps : List Path) : List T1 → List T1 → Prop
  | nil : GVL ps [] []
  | cons {t t' : T1} {l l' : List T1} : GV1 ps t t' → GVL ps l l' → GVL ps (t :: l) (t' :: l')

inductive GV (ps : List Path) : TV → TV → Prop
  | one {t t' : T1} : GV1 ps t t' → GV ps (.one t) (.one t')
  | agg {l l' : List T1} : GVL ps l l' → GV ps (.agg l) (.agg l')

inductive GVs (ps : List Path) : List TV → List TV → Prop
  | nil : GVs ps [] []
  | cons {t t' : TV} {l l' : List TV} : GV ps t t' → GVs ps l l' → GVs ps (t :: l) (t' :: l')

theorem GV1.val {ps : List Path} {t t' : T1} (h : GV1 ps t t') {x : Value} (hx : T1Val w S γ t x) : T1Val w S (handN γ ps) t' x := by
  cases h with
  | same hc => exact closed1_val hc hx
  | @so k q i f n hk =>
    have e : handN γ ps ([] ++ [(0, k)]) = γ (q ++ [(i, f)]) := by rw [List.nil_append, handN_ne hk (by simp), List.append_nil]
    show (∃ l, handN γ ps ([] ++ [(0, k)]) = some l ∧ _) ∨ (handN γ ps ([] ++ [(0, k)]) = none ∧ _)
    rw [e]
    exact hx
  | @pl k p hk hne =>
    obtain ⟨l, hl, hx⟩ := hx
    exact ⟨l, by rw [handN_ne hk (by intro e; rw [e] at hne; cases hne), List.append_nil]; exact hl, hx⟩
  | nil k hk =>
    have := one_v (γ := γ) (show TVVal w S γ (.one (.c (.v _))) x from hx)
    exact .inr ⟨by rw [List.nil_append, handN_nil hk rfl], rfl, this⟩

theorem GVL.val {ps : List Path} : ∀ {l l' : List T1} {xs : List Value}, GVL ps l l' → All2 (T1Val w S γ) l xs → All2 (T1Val w S (handN γ ps)) l' xs
  | _, _, xs, .nil, h => by
    have : xs = [] := List.eq_nil_of_length_eq_zero (by rw [← h.1]; rfl)
    subst this
    exact .nil
  | _, _, xs, .cons h1 h2, h => by
    obtain ⟨x, xs', rfl, g1, g2⟩ := h.uncons
    exact .cons (h1.val g1) (GVL.val h2 g2)

theorem GV.val {ps : List Path} {t t' : TV} (h : GV ps t t') {x : Value} (hx : TVVal w S γ t x) : TVVal w S (handN γ ps) t' x := by
  cases h with
  | one h => exact h.val hx
  | agg h => obtain ⟨xs, rfl, hl⟩ := hx; exact ⟨xs, rfl, h.val hl⟩

theorem GVs.val {ps : List Path} : ∀ {l l' : List TV} {xs : List Value}, GVs ps l l' → All2 (TVVal w S γ) l xs → All2 (TVVal w S (handN γ ps)) l' xs
  | _, _, xs, .nil, h => by
    have : xs = [] := List.eq_nil_of_length_eq_zero (by rw [← h.1]; rfl)
    subst this
    exact .nil
  | _, _, xs, .cons h1 h2, h => by
    obtain ⟨x, xs', rfl, g1, g2⟩ := h.uncons
    exact .cons (h1.val g1) (GVs.val h2 g2)

/-- The caller's world behind a call that wrote only what it was lent; what is only read may have become more. -/
theorem Rel.frameG {w' : World} {ins : Rows} {γi : Path → Option Loc} {S' : Nat → Prop} (hR : Rel B S γ st a w) (hf : Frame (baseIO w S ins γi) w') (h1 : ∀ b, S b → S' b) (h2 : ∀ b, S' b → S b ∨ w.heap.size ≤ b) (h3 : ∀ b, S' b → b < w'.heap.size)
    (hS : ∀ b, S b → ¬ ownB ins γi b) (hd : ∀ p rs l, p ≠ [] → getR st.m p = some rs → γ p = some l → ¬ ownB ins γi l.b)
    (hB : ∀ b, ownB ins γi b → B.w.heap.size ≤ b ∨ ∀ o, B.F b o) : Rel B S' γ st a w' := by
  have hall : ∀ b, b < w.heap.size → ¬ ownB ins γi b → w'.heap[b]? = w.heap[b]? := fun b hb hn => hf.all b hb fun o ho => hn ho
  have hSw : ∀ b, S b → w'.heap[b]? = w.heap[b]? := fun b hb => hall b (hR.lt b hb) (hS b hb)
  refine ⟨fun b hb => h1 b (hR.sS b hb), h3, hR.mem.frame h1 hSw fun p rs l hp hr hl => ?_, fun k t hk => TVVal.imp (fun _ _ ht => T1Val.frame h1 hSw ht) (hR.tv k t hk), hR.size, hR.msize, hR.defers, hR.own, hR.fix, (hR.frameIO hf hS hd hB).fr⟩
  have := hR.mem.loc p rs hp hr
  rw [hl] at this
  obtain ⟨g1, _, _, cells, e, lo, hi, h4, _⟩ := this
  refine ⟨hall _ (lt_of_heap h4) (hd p rs l hp hr hl), fun hs => ?_⟩
  rcases h2 _ hs with k1 | k1
  · exact g1 k1
  · have := lt_of_heap h4; omega

/-- Cells of a call's own come into slot d. -/
theorem Rel.setRow {γr : Path → Option Loc} {res : TV} {row : List C} {v : Value} {d : Nat} (hR : Rel B S γ st a w) (hm : MemOK w S [row] γr) (hv : TVVal w S γr res v) (hown : ∀ q rows l, q ≠ [] → getR [row] q = some rows → γr q = some l → OwnOK B l)
    (hap : ∀ q rows l q' rows' l', q ≠ [] → getR st.m q = some rows → γ q = some l → q' ≠ [] → getR [row] q' = some rows' → γr q' = some l' → l.b ≠ l'.b) (hnp : B.np ≤ d) (hd : d < st.m.length) :
    Rel B S (rootG γ γr d) (st.callRet d res row) (a.put (some d) v) w := by
  have hmem := hR.mem.setRow hm.pad hd fun q rows l q' rows' l' hq hr hl hq' hr' hl' => hap q rows l q' rows' l' hq hr hl hq' (pad_getR hq' hr').2 hl'
  refine ⟨hR.sS, hR.lt, hmem, fun k t hk => ?_, by simp [St.callRet, Act.put, hR.size], by simp [St.callRet, hR.msize], hR.defers, fun q rows l hq hr hl => ?_, fun i f c hi hc hrows => ?_, hR.fr⟩
  · simp only [St.callRet, Act.put] at hk ⊢
    by_cases hkd : d = k
    · subst hkd
      have hlen : d < (st.t.map (TV.map1 (T1.unroot d))).length := by have := (List.getElem?_eq_some_iff.1 hk).1; simpa using this
      rw [List.getElem?_set_self hlen] at hk
      cases hk
      have : d < a.tmps.size := by rw [← hR.size]; simpa using hlen
      simp only [Array.getD_eq_getD_getElem?, Array.getElem?_setIfInBounds_self_of_lt this, Option.getD_some]
      exact TVVal.map1 (fun _ _ ht => T1Val.shift ht) hv
    · rw [List.getElem?_set_ne hkd] at hk
      obtain ⟨t0, ht0, rfl⟩ := getElem?_map_some hk
      have := hR.tv k t0 ht0
      simp only [Array.getD_eq_getD_getElem?] at this ⊢
      rw [Array.getElem?_setIfInBounds_ne hkd]
      exact TVVal.map1 (fun _ _ ht => T1Val.unroot ht) this
  · simp only [St.callRet] at hr
    rw [getR_set hd hq] at hr
    unfold rootG at hl
    split at hr
    · rename_i h1
      rw [if_pos h1] at hl
      exact hown _ rows l (toRoot_ne h1) (pad_getR (toRoot_ne h1) hr).2 hl
    · rename_i h1
      rw [if_neg h1] at hl
      exact hR.own q rows l hq hr hl
  · simp only [St.callRet] at hc
    have hid : i ≠ d := by omega
    rw [at2_set hd, if_neg hid] at hc
    have e : rootG γ γr d [(i, f)] = γ [(i, f)] := by simp [rootG, rootIs, hid]
    rw [e]
    exact hR.fix i f c hi hc hrows

theorem killP_len : ∀ (ps : List Path) (st0 stk : St), killP st0 ps = some stk → stk.m.length = st0.m.length ∧ stk.t.length = st0.t.length
  | [], st0, stk, h => by cases h; exact ⟨rfl, rfl⟩
  | p :: ps, st0, stk, h => by
    simp only [killP] at h
    split at h
    · exact killP_len ps _ stk h
    · split at h
      · cases h
      · split at h
        · cases h
        · rename_i rows hq
          split at h
          · cases h
          · obtain ⟨h1, h2⟩ := killP_len ps _ stk h
            simp only [List.length_map] at h2
            rw [setR_length st0.m _ rows _ hq (set2_length _ _ _ _)] at h1
            exact ⟨h1, h2⟩

theorem putP_len : ∀ (ps : List Path) (xs : List C) (st0 stk : St), putP st0 ps xs = some stk → stk.m.length = st0.m.length ∧ stk.t.length = st0.t.length
  | _, [], st0, stk, h => by simp only [putP, Option.some.injEq] at h; subst h; exact ⟨rfl, rfl⟩
  | [], _ :: _, st0, stk, h => by simp [putP] at h
  | p :: ps, x :: xs, st0, stk, h => by
    simp only [putP] at h
    split at h
    · exact putP_len ps xs _ stk h
    · split at h
      · cases h
      · split at h
        · cases h
        · rename_i rows hq
          split at h
          · cases h
          · obtain ⟨h1, h2⟩ := putP_len ps xs _ stk h
            simp only [List.length_map] at h2
            rw [setR_length st0.m _ rows _ hq (set2_length _ _ _ _)] at h1
            exact ⟨h1, h2⟩

theorem sameHd_valS {w' : World} {S' : Nat → Prop} {c x : C} {l : Option Loc} {v y : Value} (h : sameHd c x) (hv : Hdr w S c l v) (hy : Hdr w' S' x l y) : y = v := by
  cases c with
  | sl sz r =>
    cases x with
    | sl sz' r' =>
      have hl : r'.length = r.length := h
      cases l with
      | none => rw [hy.2, hv.2]
      | some l => rw [hy.1, hv.1, hl]
    | _ => exact h.elim
  | bx r =>
    cases x with
    | bx r' =>
      cases l with
      | none => exact hv.elim
      | some l => exact (show y = _ from hy).trans (show v = _ from hv).symm
    | _ => exact h.elim
  | _ => cases x <;> exact h.elim

/-- THE CALLER behind such a call. -/
theorem g_call (hR : Rel B S γ st a w) (hSn : ∀ b, S b → B.S b ∨ B.w.heap.size ≤ b) {g : FuncId} {A A' : List TV} {vals : List Value} {cs outs row : List C} {res : TV} {ps : List Path} {stk stf : St} {d : Nat} (hC : CallG P g cs A' outs res row)
    (hv : All2 (TVVal w S γ) A vals) (hA : GVs ps A A') (hH : HandedN st.m cs ps) (hap : ApartN ps) (hk : killP st ps = some stk) (hp : putP stk ps outs = some stf) (hh : HeadL cs outs)
    (hF : ∀ b o o', B.F b o → B.F b o') (hnp : B.np ≤ d) (hd : d < st.m.length) :
    Calls P g vals.toArray w fun e w' => ∃ v, e = .returned v ∧ RelE B ((st.gback ps outs stf.m).callRet d res row) (a.put (some d) v) w' := by
  refine (hC w S (handN γ ps) vals hR.lt (hR.mem.handN hH hap) (hA.val hv)).mono fun e w' ⟨v, he, hf, S', γ', γr, hS1, hS2, hS3, hm, hmr, hres, hfx, hown, hownr, hdisj⟩ => ⟨v, he, ?_⟩
  obtain ⟨γk, hRk, hgk, hkp⟩ := killP_rel ps γ st stk hR hk
  have hin : ∀ b, ownB [cs] (handN γ ps) b → ∃ p s rs l, p ∈ ps ∧ p ≠ [] ∧ getR st.m (p ++ s) = some rs ∧ γ (p ++ s) = some l ∧ l.b = b := fun b hb => by
    obtain ⟨q, rs, l, hq0, hr, hl, rfl⟩ := hb
    obtain ⟨j, s, p, rfl, hp, ⟨he, rfl⟩ | ⟨hne, hr⟩⟩ := getR_handedN hH hq0 hr
    · rw [handN_nil hp he] at hl; cases hl
    · rw [handN_ne hp hne] at hl
      exact ⟨p, s, rs, l, List.mem_of_getElem? hp, hne, hr, hl, rfl⟩
  have hS0 : ∀ b, S b → ¬ ownB [cs] (handN γ ps) b := fun b hb ho => by
    obtain ⟨p, s, rs, l, _, hne, h3, h4, rfl⟩ := hin b ho
    have := hR.mem.loc _ rs (by simp [hne]) h3
    rw [h4] at this
    exact this.1 hb
  have hkg : ∀ p rs, p ≠ [] → getR stk.m p = some rs → γk p = γ p := fun p rs hp0 hr => hgk p (hkp p rs hp0 hr).choose_spec.2
  have hdis : ∀ p rs l, p ≠ [] → getR stk.m p = some rs → γk p = some l → ¬ ownB [cs] (handN γ ps) l.b := fun p rs l hp0 hr hl ho => by
    obtain ⟨p1, s, rs1, l1, h1, h2, h3, h4, h5⟩ := hin l.b ho
    obtain ⟨rs0, g1, g3⟩ := hkp p rs hp0 hr
    rw [hkg p rs hp0 hr] at hl
    have := hR.mem.inj p _ rs0 rs1 l l1 hp0 (by simp [h2]) g1 h3 hl h4 h5.symm
    exact g3 p1 h1 h2 (this ▸ ⟨s, rfl⟩)
  have hBw : ∀ b, ownB [cs] (handN γ ps) b → B.w.heap.size ≤ b ∨ ∀ o, B.F b o := fun b ho => by
    obtain ⟨p, s, rs, l, _, h2, h3, h4, rfl⟩ := hin b ho
    rcases hR.own _ rs l (by simp [h2]) h3 h4 with h | ⟨⟨o, ho⟩, _⟩
    · exact .inl h
    · exact .inr fun o' => hF _ o o' ho
  have hR1 : Rel B S' γk stk a w' := hRk.frameG hf hS1 hS2 hS3 hS0 hdis hBw
  have hnewown : ∀ l : Loc, OwnOK (baseIO w S [cs] (handN γ ps)) l → w.heap.size ≤ l.b ∨ ownB [cs] (handN γ ps) l.b := fun l h => by
    rcases h with h | ⟨⟨o, ho⟩, _⟩
    · exact .inl h
    · exact .inr ho
  have hownB : ∀ l : Loc, OwnOK (baseIO w S [cs] (handN γ ps)) l → OwnOK B l := fun l h => by
    rcases hnewown l h with h | h
    · exact .inl (Nat.le_trans hR.fr.size h)
    · rcases hBw _ h with h1 | h1
      · exact .inl h1
      · exact .inr ⟨⟨0, h1 0⟩, fun o _ _ => h1 o⟩
  have hold : ∀ p rs l, p ≠ [] → getR stk.m p = some rs → γk p = some l → ∀ l' : Loc, OwnOK (baseIO w S [cs] (handN γ ps)) l' → l.b ≠ l'.b := fun p rs l hp0 hr hl l' ho hb => by
    rcases hnewown l' ho with h | h
    · have := hRk.mem.loc p rs hp0 hr
      rw [hl] at this
      obtain ⟨_, _, _, cells, e, lo, hi, h4, _⟩ := this
      have := lt_of_heap h4
      omega
    · exact hdis p rs l hp0 hr hl (hb ▸ h)
  have hapl : ∀ (j j' : Nat) (p p' : Path), ps[j]? = some p → ps[j']? = some p' → p ≠ [] → p' ≠ [] → p <+: p' → j = j' := hap
  have hsameg : ∀ j x p, outs[j]? = some x → isDead x = false → ps[j]? = some p → p ≠ [] ∧ γ' [(0, j)] = γ p ∧ ∃ c, cs[j]? = some c ∧ sameHd c x := fun j x p hj hdx hpj => by
    obtain ⟨c, hc, hsame⟩ := hh.get hj hdx
    obtain ⟨r1, r2, r3⟩ := sameHd_rows hsame
    have hγ := hfx j x hj r2
    have hne : p ≠ [] := fun he => by
      have hdx' := hp
      subst he
      have key : ∀ (pl : List Path) (xl : List C) (stA stB : St) (j : Nat), putP stA pl xl = some stB → xl[j]? = some x → pl[j]? = some [] → False := by
        intro pl
        induction pl with
        | nil => intro xl stA stB j h1 h2 h3; simp at h3
        | cons p0 pl ih =>
          intro xl stA stB j h1 h2 h3
          cases xl with
          | nil => simp at h2
          | cons x0 xl =>
            simp only [putP] at h1
            cases j with
            | zero =>
              simp at h2 h3
              subst h2 h3
              rw [hdx] at h1
              simp at h1
            | succ j =>
              simp at h2 h3
              split at h1
              · exact ih xl _ stB j h1 h2 h3
              · split at h1
                · cases h1
                · split at h1
                  · cases h1
                  · split at h1
                    · cases h1
                    · exact ih xl _ stB j h1 h2 h3
      exact key ps outs stk stf j hp hj hpj
    refine ⟨hne, ?_, c, hc, hsame⟩
    rw [hγ, handN_ne hpj hne, List.append_nil]
  obtain ⟨γf, hRf, hf1, hf2, hf3⟩ := putP_rel hm hapl outs ps 0 γk stk stf rfl rfl hR1 hp
    (fun j x q i f l hj hdx hpj hne hl => by
      obtain ⟨hpne, hγ, c, hc, hsame⟩ := hsameg j x _ hj hdx hpj
      obtain ⟨r1, r2, r3⟩ := sameHd_rows hsame
      rcases hH.2 j c _ hc hpj with ⟨he, _⟩ | ⟨q', i', f', rows, he, hq, hat⟩
      · exact absurd he hpne
      obtain ⟨rfl, e2⟩ := List.append_inj' he rfl
      cases e2
      have hlq : γ q = some l := by
        rw [← hgk q fun p' hp' hne' hpre => ?_]
        · exact hl
        · obtain ⟨j', hj', rfl⟩ := List.getElem_of_mem hp'
          have := hap j' j _ _ (List.getElem?_eq_getElem hj') hpj hne' hpne (hpre.trans (List.prefix_append _ _))
          subst this
          rw [List.getElem?_eq_getElem hj'] at hpj
          have e := Option.some.inj hpj
          have := hpre.length_le
          rw [e] at this
          simp at this
          omega
      obtain ⟨v0, h1, h2⟩ := hR.mem.cell q rows l i f c hne hq hlq hat
      have hato : at2 [outs] 0 j = some x := by simpa [at2] using hj
      obtain ⟨y, hy⟩ := hm.head 0 j x hato
      rw [hγ] at hy
      have hyv := sameHd_valS hsame h2 hy
      subst hyv
      refine ⟨y, by rw [hγ]; exact hy, ?_⟩
      have hnl : ¬ ownB [cs] (handN γ ps) l.b := fun ho => by
        obtain ⟨p1, s, rs1, l1, g1, g2, h3, h4, h5⟩ := hin l.b ho
        have := hR.mem.inj q _ rows rs1 l l1 hne (by simp [g2]) hq h3 hlq h4 h5.symm
        obtain ⟨j', hj', rfl⟩ := List.getElem_of_mem g1
        have hpre : ps[j'] <+: q ++ [(i, f)] := by rw [this]; exact (List.prefix_append _ _).trans (List.prefix_append _ _)
        have hjj := hap j' j _ _ (List.getElem?_eq_getElem hj') hpj g2 hpne hpre
        subst hjj
        rw [List.getElem?_eq_getElem hj'] at hpj
        have e := Option.some.inj hpj
        rw [e] at this
        have := congrArg List.length this
        simp at this
      have hlt : l.b < w.heap.size := by
        have := hR.mem.loc q rows hne hq
        rw [hlq] at this
        obtain ⟨_, _, _, cells, e, lo, hi, h4, _⟩ := this
        exact lt_of_heap h4
      rw [World.cell?_of_block (w := w) (hf.all l.b hlt fun o ho => hnl ho)]
      exact h1)
    (fun p rs l hp0 hr hl j s rs' l' _ hs' hl' => hold p rs l hp0 hr hl l' (hown _ rs' l' (by simp) hs' hl'))
    (fun j s rs' l' hs' hl' => hownB l' (hown _ rs' l' (by simp) hs' hl'))
    (fun j x i f hj hx hpj hi => by
      have hdx : isDead x = false := by
        cases hd : isDead x with
        | false => rfl
        | true => exact absurd (isDead_rows hd) hx
      obtain ⟨hpne, hγ, c, hc, hsame⟩ := hsameg j x _ hj hdx hpj
      obtain ⟨r1, r2, r3⟩ := sameHd_rows hsame
      rcases hH.2 j c _ hc hpj with ⟨he, _⟩ | ⟨q', i', f', rows, he, hq, hat⟩
      · exact absurd he hpne
      have : q' = [] := by
        have := congrArg List.length he
        simp at this
        exact this
      subst this
      simp only [List.nil_append, List.cons.injEq, Prod.mk.injEq, and_true] at he
      obtain ⟨rfl, rfl⟩ := he
      simp only [getR, Option.some.injEq] at hq
      subst hq
      rw [hγ]
      exact hR.fix i f c hi hat r1)
  have hlen : stf.m.length = st.m.length := by rw [(putP_len ps outs stk stf hp).1, (killP_len ps st stk hk).1]
  have hRb : Rel B S' γf (st.gback ps outs stf.m) a w' := by
    refine ⟨hRf.sS, hRf.lt, hRf.mem, fun k t hkt => ?_, by simp [St.gback, hR.size], by simp [St.gback, hlen, hR.msize], hRf.defers, hRf.own, hRf.fix, hRf.fr⟩
    simp only [St.gback] at hkt
    obtain ⟨t0, ht0, rfl⟩ := getElem?_map_some hkt
    have hSw : ∀ b, S b → w'.heap[b]? = w.heap[b]? := fun b hb => hf.all b (hR.lt b hb) fun o ho => hS0 b hb ho
    refine TVVal.map1 (fun t x ht => ?_) (hR.tv k t0 ht0)
    have ht := T1Val.frame hS1 hSw ht
    unfold T1.again
    split
    · rename_i hex
      unfold exactT at hex
      split at hex
      · cases hex
      · rename_i p hpt
        rw [List.any_eq_true] at hex
        obtain ⟨⟨p1, x1⟩, hz, hcond⟩ := hex
        simp only [Bool.and_eq_true, Bool.not_eq_true', beq_iff_eq] at hcond
        obtain ⟨⟨hne, hdx⟩, _, rfl⟩ := hcond
        obtain ⟨j, hj, he⟩ := List.getElem_of_mem hz
        rw [List.getElem_zip] at he
        have hj1 : j < ps.length := by simp at hj; omega
        have hj2 : j < outs.length := by simp at hj; omega
        have e1 : ps[j] = p1 := (Prod.mk.inj he).1
        have e2 : outs[j] = x1 := (Prod.mk.inj he).2
        have hpj : ps[j]? = some p1 := by rw [List.getElem?_eq_getElem hj1, e1]
        have hoj : outs[j]? = some x1 := by rw [List.getElem?_eq_getElem hj2, e2]
        refine ht.at fun p2 hp2 => ?_
        rw [hpt] at hp2
        cases hp2
        rw [hf2 j x1 p1 (Nat.zero_le _) hoj hdx hpj, (hsameg j x1 p1 hoj hdx hpj).2.1]
    · refine T1.forgetAll_val ht fun p hpn => ?_
      rw [hf1 p fun j p' _ hpj hne => hpn p' (List.mem_of_getElem? hpj) hne, hgk p hpn]
  refine ⟨S', rootG γf γr d, hRb.setRow hmr hres (fun q rows l hq hr hl => hownB l (hownr q rows l hq hr hl)) (fun q rows l q' rows' l' hq hr hl hq' hr' hl' => ?_) hnp (by simp only [St.gback]; rw [hlen]; exact hd), fun b hb => ?_⟩
  · rcases hf3 q rows hq hr with ⟨rs0, h1, h2⟩ | ⟨j, s, p', rs', _, h1, h2, h3, h4⟩
    · rw [h2] at hl
      exact hold q rs0 l hq h1 hl l' (hownr q' rows' l' hq' hr' hl')
    · rw [h4] at hl
      exact hdisj _ rs' l q' rows' l' (by simp) h3 hl hq' hr' hl'
  · rcases hS2 b hb with h | h
    · exact hSn b h
    · exact .inr (Nat.le_trans hR.fr.size h)

/-! ### The rules -/
variable {Q : AQ} {ops : Array Oper}

end
end Go.Mv

/- The general contract as the walk prints it: its end, and what is handed over. -/
namespace Go.Mv
open Go.RowKit

def endGTO (Ty : Types) (st : St) (rs : List ResultVar) : Option (List C × TV × List C × Obs) :=
  match resT Ty st rs with
  | none => none
  | some ts => match tupOf ts with
    | none => none
    | some t => match outVO st.m t with
      | none => none
      | some (res, row, ps, ob) => if apartPs ps then match outsOf st.m ps with
        | none => none
        | some outs => some (outs, res, row, ob)
        else none

theorem end_g {Ty : Types} {st : St} {rs : List ResultVar} {outs outs' : List C} {res res' : TV} {row row' : List C} {ob : Obs} (h : endGTO Ty st rs = some (outs', res', row', ob)) (ho : ObsOK ob) (e1 : outs' = outs) (e2 : res' = res) (e3 : row' = row) :
    endGT Ty st rs = some (outs, res, row) := by
  subst e1 e2 e3
  unfold endGTO at h
  unfold endGT
  cases hts : resT Ty st rs with
  | none => rw [hts] at h; cases h
  | some ts =>
    rw [hts] at h
    dsimp only at h ⊢
    cases ht : tupOf ts with
    | none => rw [ht] at h; cases h
    | some t =>
      rw [ht] at h
      dsimp only at h ⊢
      cases ho1 : outVO st.m t with
      | none => rw [ho1] at h; cases h
      | some y =>
        obtain ⟨r1, w1, ps, ob1⟩ := y
        rw [ho1] at h
        dsimp only at h ⊢
        by_cases hap : apartPs ps = true
        · rw [if_pos hap] at h
          cases hos : outsOf st.m ps with
          | none => rw [hos] at h; cases h
          | some os =>
            rw [hos] at h
            cases h
            rw [outVO_ok ho1 ho]
            dsimp only
            rw [if_pos hap, hos]
        · rw [if_neg hap] at h; cases h

def handedNB (m : Rows) : List Path → List Nat → Option (List C)
  | [], _ => some []
  | _ :: _, [] => none
  | p :: ps, sz :: szs => if p.isEmpty then (handedNB m ps szs).map (C.sl sz [] :: ·) else match p.getLast? with
    | none => none
    | some (i, f) => match getR m p.dropLast with
      | none => none
      | some rows => match at2 rows i f with
        | none => none
        | some c => (handedNB m ps szs).map (c :: ·)

theorem handedN_of {m : Rows} : ∀ {ps : List Path} {szs : List Nat} {cs : List C}, handedNB m ps szs = some cs → HandedN m cs ps
  | [], _, cs, h => by cases h; exact ⟨rfl, fun j c p hj => by simp at hj⟩
  | _ :: _, [], _, h => by cases h
  | p :: ps, sz :: szs, cs, h => by
    simp only [handedNB] at h
    have key : ∀ c : C, ((p = [] ∧ ∃ sz, c = .sl sz []) ∨ ∃ q i f rows, p = q ++ [(i, f)] ∧ getR m q = some rows ∧ at2 rows i f = some c) → (handedNB m ps szs).map (c :: ·) = some cs → HandedN m cs (p :: ps) := fun c hc h => by
      cases hx : handedNB m ps szs with
      | none => rw [hx] at h; cases h
      | some cs0 =>
        rw [hx] at h
        cases h
        obtain ⟨g1, g2⟩ := handedN_of hx
        refine ⟨by simp [g1], fun j c' p' hj hp => ?_⟩
        cases j with
        | zero => simp at hj hp; subst hj hp; exact hc
        | succ j => exact g2 j c' p' (by simpa using hj) (by simpa using hp)
    split at h
    · rename_i he
      exact key _ (.inl ⟨by cases p <;> simp_all, sz, rfl⟩) h
    · split at h
      · cases h
      · rename_i i f hl
        split at h
        · cases h
        · rename_i rows hq
          split at h
          · cases h
          · rename_i c hc
            exact key c (.inr ⟨p.dropLast, i, f, rows, last_snoc hl, hq, hc⟩) h

end Go.Mv

/- What a program computes, as a term that may fail; the walk along such a term: loops, ways that come together. -/
namespace Go.Mv
open Go.RowKit

/-! ### Terms that may fail -/
def chk {α : Type} (c : Prop) [Decidable c] (k : Option α) : Option α := if c then k else none
def bnd {α β : Type} (o : Option α) (k : α → Option β) : Option β := match o with | some a => k a | none => none
def bndS {ι τ : Type} (o : Option (ι ⊕ τ)) (k : ι → Option τ) : Option τ := match o with | some (.inl j) => k j | some (.inr t) => some t | none => none
def getI {α : Type} (xs : List α) (i : Int) : Option α := if 0 ≤ i then xs[i.toNat]? else none

theorem bnd_e {α β : Type} {o : Option α} {k : α → Option β} {v : β} (h : bnd o k = some v) : ∃ r, o = some r ∧ k r = some v := by
  unfold bnd at h
  split at h
  · exact ⟨_, rfl, h⟩
  · cases h
theorem bndS_e {ι τ : Type} {o : Option (ι ⊕ τ)} {k : ι → Option τ} {z : τ} (h : bndS o k = some z) : ∃ y, o = some y ∧ (∀ j, y = .inl j → k j = some z) ∧ (∀ t, y = .inr t → t = z) := by
  unfold bndS at h
  split at h
  · exact ⟨_, rfl, fun j hj => Sum.inl.inj hj ▸ h, fun t ht => (nomatch ht)⟩
  · exact ⟨_, rfl, fun j hj => (nomatch hj), fun t ht => (Sum.inr.inj ht).symm.trans (Option.some.inj h)⟩
  · cases h
theorem getI_e {α : Type} {xs : List α} {i : Int} {x : α} (h : getI xs i = some x) : 0 ≤ i ∧ xs[i.toNat]? = some x := by
  unfold getI at h
  split at h
  · rename_i hi; exact ⟨hi, h⟩
  · cases h
@[simp] theorem bnd_some {α β : Type} (a : α) (k : α → Option β) : bnd (some a) k = k a := rfl
@[simp] theorem bnd_none {α β : Type} (k : α → Option β) : bnd none k = none := rfl
@[simp] theorem bndS_inl {ι τ : Type} (j : ι) (k : ι → Option τ) : bndS (some (.inl j) : Option (ι ⊕ τ)) k = k j := rfl
@[simp] theorem bndS_inr {ι τ : Type} (t : τ) (k : ι → Option τ) : bndS (some (.inr t) : Option (ι ⊕ τ)) k = some t := rfl
theorem getI_nat {α : Type} (xs : List α) (k : Nat) : getI xs (k : Int) = xs[k]? := by unfold getI; rw [if_pos (Int.natCast_nonneg k)]; rfl

/-! ### Loops -/
def loopN {σ τ : Type} (f : σ → Option (σ ⊕ τ)) : Nat → σ → Option τ
  | 0, _ => none
  | n + 1, s => match f s with
    | none => none
    | some (.inl s') => loopN f n s'
    | some (.inr t) => some t

theorem loopN_mono {σ τ : Type} {f : σ → Option (σ ⊕ τ)} : ∀ {n m : Nat} {s : σ} {t : τ}, n ≤ m → loopN f n s = some t → loopN f m s = some t
  | 0, _, s, t, _, h => by cases h
  | n + 1, 0, s, t, hm, _ => by omega
  | n + 1, m + 1, s, t, hm, h => by
    simp only [loopN] at h ⊢
    split at h
    · cases h
    · exact loopN_mono (by omega) h
    · exact h

open Classical in
noncomputable def loopT {σ τ : Type} (f : σ → Option (σ ⊕ τ)) (s : σ) : Option τ := if h : ∃ t n, loopN f n s = some t then some h.choose else none

theorem loopT_iff {σ τ : Type} {f : σ → Option (σ ⊕ τ)} {s : σ} {t : τ} : loopT f s = some t ↔ ∃ n, loopN f n s = some t := by
  unfold loopT
  constructor
  · intro h
    split at h
    · rename_i hx
      cases h
      exact hx.choose_spec
    · cases h
  · rintro ⟨n, hn⟩
    have hx : ∃ t n, loopN f n s = some t := ⟨t, n, hn⟩
    rw [dif_pos hx]
    obtain ⟨m, hm⟩ := hx.choose_spec
    have h1 := loopN_mono (Nat.le_max_left n m) hn
    have h2 := loopN_mono (Nat.le_max_right n m) hm
    rw [h1] at h2
    exact h2.symm

theorem loopT_eq {σ τ : Type} (f : σ → Option (σ ⊕ τ)) (s : σ) : loopT f s = match f s with | none => none | some (.inl s') => loopT f s' | some (.inr t) => some t := by
  have key : ∀ t, loopT f s = some t ↔ (match f s with | none => none | some (.inl s') => loopT f s' | some (.inr t) => some t) = some t := by
    intro t
    rw [loopT_iff]
    constructor
    · rintro ⟨n, hn⟩
      cases n with
      | zero => cases hn
      | succ n =>
        simp only [loopN] at hn
        split at hn
        · cases hn
        · exact loopT_iff.2 ⟨n, hn⟩
        · exact hn
    · intro h
      split at h
      · cases h
      · rename_i s' hs
        obtain ⟨n, hn⟩ := loopT_iff.1 h
        exact ⟨n + 1, by simp only [loopN, hs]; exact hn⟩
      · rename_i t' hs
        exact ⟨1, by simp only [loopN, hs]; exact h⟩
  cases hl : loopT f s with
  | some t => exact ((key t).1 hl).symm
  | none =>
    cases hr : (match f s with | none => none | some (.inl s') => loopT f s' | some (.inr t) => some t) with
    | none => rfl
    | some t => rw [(key t).2 hr] at hl; cases hl

theorem loopT_next {σ τ : Type} {f : σ → Option (σ ⊕ τ)} {s s' : σ} (h : f s = some (.inl s')) : loopT f s = loopT f s' := by rw [loopT_eq, h]
theorem loopT_done {σ τ : Type} {f : σ → Option (σ ⊕ τ)} {s : σ} {t : τ} (h : f s = some (.inr t)) : loopT f s = some t := by rw [loopT_eq, h]

section
variable {P : Program} {Ty : Types} {B : Base} {st : St} {Q : AQ}

def joinQ {ι : Type} (B : Base) (S : ι → St) (J : ι → Prop) (Q : AQ) : AQ
  | .normal, st' => ∃ j, J j ∧ Imp B st' (S j)
  | e, st' => Q e st'

theorem a_loopT {σ τ : Type} {c : Code} (f : σ → Option (σ ⊕ τ)) (S : σ → St) (s0 : σ) {z : τ} (h : loopT f s0 = some z) (h0 : Imp B st (S s0))
    (step : ∀ s y, f s = some y → (∀ t, y = .inr t → t = z) → AWp P B c (joinQ B S (fun s' => y = .inl s') Q) (S s)) : AWp P B (.loop c) Q st := fun a w hR => by
  obtain ⟨n, hn⟩ := loopT_iff.1 h
  refine a_loop (ι := { p : Nat × σ // loopN f p.1 p.2 = some z }) (fun i => S i.1.2) (fun i => i.1.1) ⟨(n, s0), hn⟩ rfl (fun ⟨⟨m, s⟩, hm⟩ => ?_) a w (h0 a w hR)
  intro a1 w1 hR1
  cases m with
  | zero => cases hm
  | succ m =>
    simp only [loopN] at hm
    cases hy : f s with
    | none => rw [hy] at hm; cases hm
    | some y =>
      rw [hy] at hm
      refine wp_mono (step s y hy (fun t ht => by subst ht; simpa using hm) a1 w1 hR1) fun e a' w' hq => ?_
      cases e with
      | normal =>
        obtain ⟨st2, ⟨s', h1, h2⟩, h3⟩ := hq
        subst h1
        exact ⟨S s', ⟨⟨(m, s'), hm⟩, rfl, Nat.lt_succ_self m⟩, h2 a' w' h3⟩
      | panic c => exact hq
      | outgrown => exact hq
      | ret => exact hq
      | exit id => exact hq
      | goto l => exact hq

/-! ### What is told, told otherwise -/
/-- A slot that holds the nil slice holds an empty slice of its own, below the root r. -/
def nilOwn (np : Nat) (st : St) (k r sz : Nat) : Option St :=
  match st.t[k]? with
  | some (.one (.c (.v (.slice none 0 0)))) => if np ≤ r ∧ r < st.m.length then some { t := (st.t.map (TV.map1 (T1.unroot r))).set k (.one (.so [] r 0 0)), m := st.m.set r [.sl sz []] } else none
  | _ => none

theorem nilOwn_rel {a : Act} {w : World} {k r sz : Nat} {st1 : St} (h : nilOwn B.np st k r sz = some st1) (hR : RelE B st a w) : RelE B st1 a w := by
  unfold nilOwn at h
  split at h
  · rename_i hk
    split at h
    · rename_i hr0
      cases h
      obtain ⟨S, γ, hR, hS⟩ := hR
      have hm : MemOK w S [[.sl sz []]] (fun _ => none) := by
        have hg : ∀ q rows, q ≠ [] → getR [[C.sl sz []]] q = some rows → rows = [] := fun q rows hq hr => by
          cases q with
          | nil => exact absurd rfl hq
          | cons x s =>
            obtain ⟨i, f⟩ := x
            simp only [getR] at hr
            cases hc : at2 [[C.sl sz []]] i f with
            | none => rw [hc] at hr; cases hr
            | some c =>
              obtain ⟨rfl, hf⟩ := at2_one hc
              rw [hc] at hr
              cases f with
              | succ f => simp at hf
              | zero =>
                simp at hf
                subst hf
                simp only [Option.bind_some, C.rows] at hr
                cases s with
                | nil => simpa [getR] using hr.symm
                | cons y s => obtain ⟨a, b⟩ := y; simp [getR, at2] at hr
        refine ⟨fun q rows hq hr => hg q rows hq hr, fun q rows l i f c hq hr hl => (nomatch hl), fun i f c hc => ?_, fun q q' rows rows' l l' hq hq' hr hr' hl => (nomatch hl)⟩
        obtain ⟨rfl, hf⟩ := at2_one hc
        cases f with
        | succ f => simp at hf
        | zero => simp at hf; subst hf; exact ⟨.slice none 0 0, rfl, rfl⟩
      have hmem := hR.mem.setRow hm hr0.2 fun q rows l q' rows' l' hq hr hl hq' hr' hl' => nomatch hl'
      refine ⟨S, rootG γ (fun _ => none) r, ⟨hR.sS, hR.lt, hmem, fun j t hj => ?_, by simp [hR.size], by simp [hR.msize], hR.defers, fun q rows l hq hr hl => ?_, fun i f c hi hc hrows => ?_, hR.fr⟩, hS⟩
      · by_cases hkj : k = j
        · subst hkj
          have hlen : k < (st.t.map (TV.map1 (T1.unroot r))).length := by have := (List.getElem?_eq_some_iff.1 hj).1; simpa using this
          simp only [List.getElem?_set_self hlen, Option.some.injEq] at hj
          subst hj
          have := one_v (hR.tv k _ hk)
          exact .inr ⟨by simp [rootG, rootIs], rfl, this⟩
        · simp only [List.getElem?_set_ne hkj] at hj
          obtain ⟨t0, ht0, rfl⟩ := getElem?_map_some hj
          exact TVVal.map1 (fun _ _ ht => T1Val.unroot ht) (hR.tv j t0 ht0)
      · simp only [] at hr
        rw [getR_set hr0.2 hq] at hr
        unfold rootG at hl
        split at hr
        · rename_i h1; rw [if_pos h1] at hl; cases hl
        · rename_i h1; rw [if_neg h1] at hl; exact hR.own q rows l hq hr hl
      · have hid : i ≠ r := by
          have := hr0.1
          omega
        simp only [at2_set hr0.2, if_neg hid] at hc
        have e : rootG γ (fun _ => none) r [(i, f)] = γ [(i, f)] := by simp [rootG, rootIs, hid]
        rw [e]
        exact hR.fix i f c hi hc hrows
    · cases h
  · cases h

end
end Go.Mv

/- The rules as the walk with no annotations prints them. -/
namespace Go.Mv
open Go.RowKit

theorem getI_both {α : Type} {xs : List α} {i : Int} {x : α} (h : getI xs i = some x) : 0 ≤ i ∧ i < (xs.length : Int) := by
  obtain ⟨h0, h1⟩ := getI_e h
  have := (List.getElem?_eq_some_iff.1 h1).1
  omega
theorem getI_lt {α : Type} {xs : List α} {i : Int} {x : α} (h : getI xs i = some x) : i.toNat < xs.length := (List.getElem?_eq_some_iff.1 (getI_e h).2).1

section
variable {P : Program} {Ty : Types} {B : Base} {st : St} {Q : AQ} {ops : Array Oper}

/-- A part is given up: its place is dead. -/
def killC (st : St) (p : Path) : Option St :=
  match p.getLast? with
  | none => none
  | some (i, f) => match getR st.m p.dropLast with
    | none => none
    | some rows => match at2 rows i f with
      | none => none
      | some _ => some { t := st.t.map (TV.map1 (T1.forget p)), m := setR st.m p.dropLast (set2 rows i f .dead) }

theorem imp_kill {s s1 s2 : St} (p : Path) (ks : List Nat) (h : (killC s p).map (St.keep ks) = some s1) (n : Imp B s1 s2) : Imp B s s2 := fun a w hR => by
  cases hr : killC s p with
  | none => rw [hr] at h; cases h
  | some st2 =>
    rw [hr] at h
    cases h
    refine n a w (keep_rel ks ?_)
    obtain ⟨S, γ, hR, hS⟩ := hR
    have hk : killP s [p] = some st2 := by
      unfold killC at hr
      unfold killP
      cases hl : p.getLast? with
      | none => rw [hl] at hr; cases hr
      | some y =>
        obtain ⟨i, f⟩ := y
        have hne : p.isEmpty = false := by cases p <;> simp_all
        rw [hl] at hr
        dsimp only at hr ⊢
        rw [if_neg (by rw [hne]; simp)]
        cases hq : getR s.m p.dropLast with
        | none => rw [hq] at hr; cases hr
        | some rows =>
          rw [hq] at hr
          dsimp only at hr ⊢
          cases hc : at2 rows i f with
          | none => rw [hc] at hr; cases hr
          | some c =>
            rw [hc] at hr
            exact hr
    obtain ⟨γk, h1, _⟩ := killP_rel [p] γ s st2 hR hk
    exact ⟨S, γk, h1, hS⟩

end
end Go.Mv

/- Loops as terms: what they come to. -/
namespace Go.Mv

theorem loopT_val {σ τ : Type} {f : σ → Option (σ ⊕ τ)} (R : σ → Option τ) (inv : σ → Prop) (m : σ → Nat)
    (step : ∀ s, inv s → (∃ t, f s = some (.inr t) ∧ R s = some t) ∨ (∃ s', f s = some (.inl s') ∧ inv s' ∧ m s' < m s ∧ R s' = R s)) : ∀ s, inv s → loopT f s = R s := by
  have key : ∀ n s, m s = n → inv s → loopT f s = R s := by
    intro n
    induction n using Nat.strongRecOn with
    | ind n ih =>
      intro s hn hi
      rcases step s hi with ⟨t, h1, h2⟩ | ⟨s', h1, h2, h3, h4⟩
      · rw [loopT_done h1, h2]
      · rw [loopT_next h1, ih (m s') (by omega) s' rfl h2, h4]
  exact fun s hi => key _ s rfl hi

theorem loopT_ex {σ τ : Type} {f : σ → Option (σ ⊕ τ)} (Q : τ → Prop) (inv : σ → Prop) (m : σ → Nat)
    (step : ∀ s, inv s → (∃ t, f s = some (.inr t) ∧ Q t) ∨ (∃ s', f s = some (.inl s') ∧ inv s' ∧ m s' < m s)) : ∀ s, inv s → ∃ t, loopT f s = some t ∧ Q t := by
  have key : ∀ n s, m s = n → inv s → ∃ t, loopT f s = some t ∧ Q t := by
    intro n
    induction n using Nat.strongRecOn with
    | ind n ih =>
      intro s hn hi
      rcases step s hi with ⟨t, h1, h2⟩ | ⟨s', h1, h2, h3⟩
      · exact ⟨t, loopT_done h1, h2⟩
      · rw [loopT_next h1]; exact ih (m s') (by omega) s' rfl h2
  exact fun s hi => key _ s rfl hi

/-- The first thing that is told of one of a list's elements, by place. -/
def firstL {α τ : Type} (q : Nat → α → Option τ) : List α → Nat → Option τ
  | [], _ => none
  | x :: xs, k => match q k x with
    | some t => some t
    | none => firstL q xs (k + 1)

theorem firstL_drop {α τ : Type} (q : Nat → α → Option τ) {xs : List α} {k : Nat} {x : α} (h : xs[k]? = some x) : firstL q (xs.drop k) k = (match q k x with | some t => some t | none => firstL q (xs.drop (k + 1)) (k + 1)) := by
  have hk := (List.getElem?_eq_some_iff.1 h).1
  rw [List.drop_eq_getElem_cons hk]
  have : xs[k] = x := by rw [List.getElem?_eq_getElem hk] at h; exact Option.some.inj h
  rw [this]
  rfl

theorem firstL_any {α : Type} (p : α → Bool) (xs : List α) (k : Nat) {τ : Type} (t : τ) : firstL (fun _ x => if p x then some t else none) xs k = if xs.any p then some t else none := by
  induction xs generalizing k with
  | nil => rfl
  | cons x xs ih =>
    simp only [firstL, List.any_cons]
    by_cases h : p x = true
    · simp [h]
    · simp only [h, Bool.false_eq_true, if_false, Bool.false_or]
      exact ih (k + 1)

/-- A loop over a list that ends at the first element of which something is told. -/
theorem loop_first {α τ υ : Type} (xs : List α) (q : Nat → α → Option τ) (f : Int → Option (Int ⊕ υ)) (out : Option τ → υ) (hn : xs.length < 9223372036854775807)
    (hs : ∀ (k : Nat) (x : α), xs[k]? = some x → f k = match q k x with | some t => some (.inr (out (some t))) | none => some (.inl (IntKind.wrap .i64 ((k : Int) + 1))))
    (he : f (xs.length : Nat) = some (.inr (out none))) : loopT f 0 = some (out (firstL q xs 0)) := by
  have := loopT_val (f := f) (fun s => some (out (firstL q (xs.drop s.toNat) s.toNat))) (fun s => 0 ≤ s ∧ s ≤ xs.length) (fun s => xs.length - s.toNat) (fun s hi => by
    obtain ⟨h0, h1⟩ := hi
    obtain ⟨k, rfl⟩ := Int.eq_ofNat_of_zero_le h0
    by_cases hk : k = xs.length
    · subst hk
      refine .inl ⟨_, he, ?_⟩
      simp [firstL]
    · have hlt : k < xs.length := by omega
      have hx := List.getElem?_eq_getElem hlt
      have hf := hs k _ hx
      have hd := firstL_drop q hx
      simp only [Int.toNat_natCast]
      cases hq : q k xs[k] with
      | some t =>
        rw [hq] at hf hd
        exact .inl ⟨_, hf, by rw [hd]⟩
      | none =>
        rw [hq] at hf hd
        have hw : IntKind.wrap .i64 ((k : Int) + 1) = ((k + 1 : Nat) : Int) := by rw [mv_wrap (by omega) (by omega)]; rfl
        rw [hw] at hf
        exact .inr ⟨_, hf, ⟨by omega, by omega⟩, by simp; omega, by simp only [Int.toNat_natCast]; rw [hd]⟩) 0 ⟨by omega, by omega⟩
  simpa using this

theorem getI_at {α : Type} {xs : List α} {k : Nat} {x : α} (h : xs[k]? = some x) : getI xs (k : Int) = some x := by rw [getI_nat, h]
theorem wrapL (n : Int) (h0 : -9223372036854775808 ≤ n) (h1 : n < 9223372036854775808) : IntKind.wrap .i64 n = n := mv_wrap h0 h1

end Go.Mv
