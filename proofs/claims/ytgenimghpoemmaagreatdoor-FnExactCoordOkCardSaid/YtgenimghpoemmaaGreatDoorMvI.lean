/- What a program owns and what it only reads, as trees, and how they lie in memory; the operations that only look do what is told of them, for every state that is so told. -/
import Derived.Calls
import Derived.Below
import Derived.Laws.Sem
import Derived.Laws.World
import Derived.Laws.Strings
import Derived.Laws.StructEq
set_option linter.unusedVariables false
set_option linter.unusedSimpArgs false
namespace Go.Mv
inductive C where
 | v (u : Value)
 | sl (sz : Nat) (rows : List (List C))
 | bx (row : List C)
 | fz (c : C)
 | fn (f : FuncId) (caps : List C)
 | dead
abbrev Rows := List (List C)
abbrev Path := List (Nat × Nat)
def C.rows : C -> Option Rows
 | .sl _ r => some r
 | .bx r => some [r]
 | _ => none
def C.eI : C -> Rows -> C
 | .sl sz _, r => .sl sz r
 | .bx _, r => .bx (r.headD [])
 | c, _ => c
def at2 (rs : Rows) (i f : Nat) : Option C := (rs[i]?).bind (·[f]?)
def bz (rs : Rows) (i f : Nat) (x : C) : Rows := rs.modify i (fun r => r.set f x)
theorem fF (rs : Rows) (i f : Nat) (x : C) : (bz rs i f x).length = rs.length := by simp [bz]
theorem dy {rs : Rows} {i f : Nat} {x y : C} (h : at2 rs i f = some y) : at2 (bz rs i f x) i f = some x := by
 unfold at2 at h ⊢
 unfold bz
 cases hr : rs[i]? with
 | none => rw [hr] at h; cases h
 | some r =>
  rw [hr] at h
  simp only [Option.bind_some] at h
  rw [List.getElem?_modify_eq, hr]
  have hf : f < r.length := (List.getElem?_eq_some_iff.1 h).1
  show (r.set f x)[f]? = some x
  rw [List.getElem?_set_self hf]
theorem kI {rs : Rows} {i f i' f' : Nat} {x : C} (h : (i, f) ≠ (i', f')) : at2 (bz rs i f x) i' f' = at2 rs i' f' := by
 unfold at2 bz
 by_cases hi : i = i'
 ·subst hi
  have hf : f ≠ f' := fun e => h (by rw [e])
  rw [List.getElem?_modify_eq]
  cases rs[i]? with
  | none => rfl
  | some r => simp [hf]
 ·rw [List.getElem?_modify_ne _ _ hi]
theorem OD {rs : Rows} {i f : Nat} {x : C} {j : Nat} {row : List C} (h : (bz rs i f x)[j]? = some row) : ∃ row0, rs[j]? = some row0 /\ row.length = row0.length := by
 unfold bz at h
 by_cases hi : i = j
 ·subst hi
  rw [List.getElem?_modify_eq] at h
  cases hr : rs[i]? with
  | none => rw [hr] at h; cases h
  | some r => rw [hr] at h; simp at h; exact ⟨r, rfl, by rw [<- h]; simp⟩
 ·rw [List.getElem?_modify_ne _ _ hi] at h
  exact ⟨row, h, rfl⟩
def ay (rs : Rows) : Path -> Option Rows
 | [] => some rs
 | (i, f) :: q => ((at2 rs i f).bind C.rows).bind (ay · q)
def bh (rs : Rows) : Path -> Rows -> Rows
 | [], r' => r'
 | (i, f) :: q, r' =>
  match at2 rs i f with
  | none => rs
  | some c => match c.rows with
   | none => rs
   | some cr => bz rs i f (c.eI (bh cr q r'))
theorem Av (rs : Rows) (p q : Path) : ay rs (p ++ q) = (ay rs p).bind (ay · q) := by
 induction p generalizing rs with
 | nil => rfl
 | cons a p ih =>
  obtain ⟨i, f⟩ := a
  simp only [List.cons_append, ay]
  cases (at2 rs i f).bind C.rows with
  | none => rfl
  | some r => simp only [Option.bind_some]; exact ih r
theorem C.oH {c : C} {r r' : Rows} (h : c.rows = some r) (hl : r'.length = r.length) : (c.eI r').rows = some r' := by
 cases c with
 | sl _ _ => rfl
 | bx row =>
  simp only [C.rows, Option.some.injEq] at h
  subst h
  match r', hl with
  | [x], _ => rfl
 | _ => simp [C.rows] at h
theorem eg (rs : Rows) (p : Path) (r0 r' : Rows) (h : ay rs p = some r0) (hl : r'.length = r0.length) : (bh rs p r').length = rs.length := by
 cases p with
 | nil => simp only [ay, Option.some.injEq] at h; subst h; exact hl
 | cons a p =>
  obtain ⟨i, f⟩ := a
  simp only [bh]
  split
  ·rfl
  ·split
   ·rfl
   ·exact fF _ _ _ _
theorem ck {rs : Rows} {p : Path} {r0 r' : Rows} (h : ay rs p = some r0) (hl : r'.length = r0.length) (s : Path) : ay (bh rs p r') (p ++ s) = ay r' s := by
 induction p generalizing rs with
 | nil => rfl
 | cons a p ih =>
  obtain ⟨i, f⟩ := a
  simp only [ay] at h
  cases hc : at2 rs i f with
  | none => rw [hc] at h; cases h
  | some c =>
   rw [hc] at h
   simp only [Option.bind_some] at h
   cases hr : c.rows with
   | none => rw [hr] at h; cases h
   | some cr =>
    rw [hr] at h
    simp only [Option.bind_some] at h
    simp only [bh, hc, hr, List.cons_append, ay]
    rw [dy hc]
    simp only [Option.bind_some]
    rw [C.oH hr (eg cr p r0 r' h hl)]
    simp only [Option.bind_some]
    exact ih h
theorem Aw {rs : Rows} {p : Path} {r0 r' : Rows} (h : ay rs p = some r0) (hl : r'.length = r0.length) :
  ∀ (q : Path), ¬ p <+: q -> ∀ rows', ay (bh rs p r') q = some rows' ->
   ∃ rows, ay rs q = some rows /\ rows'.length = rows.length /\
    (∀ (j : Nat) (row' : List C), rows'[j]? = some row' -> ∃ row : List C, rows[j]? = some row /\ row'.length = row.length) /\
    ∀ i f c', at2 rows' i f = some c' -> ∃ c, at2 rows i f = some c /\
     (c' = c \/ (q ++ [(i, f)] <+: p /\ ∃ cr cr', c.rows = some cr /\ cr'.length = cr.length /\ c' = c.eI cr')) := by
 induction p generalizing rs with
 | nil => intro q hq; exact absurd (List.nil_prefix) hq
 | cons a p ih =>
  obtain ⟨i, f⟩ := a
  intro q hq rows' hrows'
  simp only [ay] at h
  cases hc : at2 rs i f with
  | none => rw [hc] at h; cases h
  | some c =>
   rw [hc] at h
   simp only [Option.bind_some] at h
   cases hr : c.rows with
   | none => rw [hr] at h; cases h
   | some cr =>
    rw [hr] at h
    simp only [Option.bind_some] at h
    simp only [bh, hc, hr] at hrows'
    cases q with
    | nil =>
     simp only [ay, Option.some.injEq] at hrows'
     subst hrows'
     refine ⟨rs, rfl, fF _ _ _ _, fun j row' hj => OD hj, fun i' f' c' hc' => ?_⟩
     by_cases he : (i, f) = (i', f')
     ·cases he
      rw [dy hc] at hc'
      cases hc'
      exact ⟨c, hc, .inr ⟨by simp, cr, bh cr p r', hr, eg cr p r0 r' h hl, rfl⟩⟩
     ·rw [kI he] at hc'
      exact ⟨c', hc', .inl rfl⟩
    | cons b q =>
     obtain ⟨i', f'⟩ := b
     simp only [ay] at hrows' ⊢
     by_cases he : (i, f) = (i', f')
     ·cases he
      rw [dy hc] at hrows'
      simp only [Option.bind_some] at hrows'
      rw [C.oH hr (eg cr p r0 r' h hl)] at hrows'
      simp only [Option.bind_some] at hrows'
      have hq' : ¬ p <+: q := fun hp => hq (by simpa using hp)
      obtain ⟨rows, h1, h2, h3, h4⟩ := ih h q hq' rows' hrows'
      refine ⟨rows, by rw [hc]; simp only [Option.bind_some, hr]; exact h1, h2, h3, fun i1 f1 c1 hc1 => ?_⟩
      obtain ⟨c2, hc2, hor⟩ := h4 i1 f1 c1 hc1
      refine ⟨c2, hc2, hor.imp id fun ⟨hp, hx⟩ => ⟨by simpa using hp, hx⟩⟩
     ·rw [kI he] at hrows'
      exact ⟨rows', hrows', rfl, fun j row' hj => ⟨row', hj, rfl⟩, fun i1 f1 c1 hc1 => ⟨c1, hc1, .inl rfl⟩⟩
end Go.Mv
namespace Go.Mv
structure Loc where
 b : Nat
 off : Nat
 cap : Nat
 sz : Nat
def plain : Value -> Bool
 | .agg _ => false
 | .tuple _ => false
 | _ => true
mutual
inductive gd (w : World) (S : Nat -> Prop) : C -> Value -> Prop
 | v {u : Value} : plain u = true -> gd w S (.v u) u
 | nil {a : Option Addr} {sz cap : Nat} : gd w S (.sl sz []) (.slice a 0 cap)
 | sl {rows : Rows} {b off cap sz : Nat} {vals : List Value} : S b -> (∀ row ∈ rows, row.length = sz) -> bG w S rows.flatten vals ->
   (∀ k v, vals[k]? = some v -> w.cell? ⟨b, off + k, none⟩ = some v) -> rows.length <= cap -> gd w S (.sl sz rows) (.slice (some ⟨b, off, none⟩) rows.length cap)
 | bx {row : List C} {b off : Nat} {vals : List Value} : S b -> bG w S row vals ->
   (∀ k v, vals[k]? = some v -> w.cell? ⟨b, off + k, none⟩ = some v) -> gd w S (.bx row) (.pointer (some ⟨b, off, none⟩))
 | fz {c : C} {x : Value} : gd w S c x -> gd w S (.fz c) x
 | dead {x : Value} : plain x = true -> gd w S .dead x
 | fn {f : FuncId} {caps : List C} {vals : List Value} : bG w S caps vals -> gd w S (.fn f caps) (.func (.func f) #[] vals.toArray)
inductive bG (w : World) (S : Nat -> Prop) : List C -> List Value -> Prop
 | nil : bG w S [] []
 | cons {c : C} {x : Value} {cs : List C} {xs : List Value} : gd w S c x -> bG w S cs xs -> bG w S (c :: cs) (x :: xs)
end
mutual
theorem gd.frame {w w' : World} {S S' : Nat -> Prop} (hS : ∀ b, S b -> S' b) (hw : ∀ b, S b -> w'.heap[b]? = w.heap[b]?) :
  ∀ {c : C} {x : Value}, gd w S c x -> gd w' S' c x
 | _, _, .v h => .v h
 | _, _, .nil => .nil
 | _, _, .sl hb hr hs hc hl => .sl (hS _ hb) hr (bG.frame hS hw hs) (fun k v hk => by rw [World.cell?_of_block (w := w) (hw _ hb)]; exact hc k v hk) hl
 | _, _, .bx hb hs hc => .bx (hS _ hb) (bG.frame hS hw hs) (fun k v hk => by rw [World.cell?_of_block (w := w) (hw _ hb)]; exact hc k v hk)
 | _, _, .fz h => .fz (gd.frame hS hw h)
 | _, _, .dead h => .dead h
 | _, _, .fn h => .fn (bG.frame hS hw h)
theorem bG.frame {w w' : World} {S S' : Nat -> Prop} (hS : ∀ b, S b -> S' b) (hw : ∀ b, S b -> w'.heap[b]? = w.heap[b]?) :
  ∀ {cs : List C} {xs : List Value}, bG w S cs xs -> bG w' S' cs xs
 | _, _, .nil => .nil
 | _, _, .cons h t => .cons (gd.frame hS hw h) (bG.frame hS hw t)
end
theorem gd.plain {w : World} {S : Nat -> Prop} : ∀ {c : C} {x : Value}, gd w S c x -> plain x = true
 | _, _, .v h => h
 | _, _, .nil => rfl
 | _, _, .sl _ _ _ _ _ => rfl
 | _, _, .bx _ _ _ => rfl
 | _, _, .fz h => gd.plain h
 | _, _, .dead h => h
 | _, _, .fn _ => rfl
theorem bG.length {w : World} {S : Nat -> Prop} : ∀ {cs : List C} {xs : List Value}, bG w S cs xs -> cs.length = xs.length
 | _, _, .nil => rfl
 | _, _, .cons _ t => by simp [bG.length t]
theorem bG.get {w : World} {S : Nat -> Prop} : ∀ {cs : List C} {xs : List Value}, bG w S cs xs -> ∀ {k : Nat} {c : C}, cs[k]? = some c -> ∃ x, xs[k]? = some x /\ gd w S c x
 | _, _, .nil, _, _, hk => by simp at hk
 | _, _, .cons h t, 0, _, hk => by simp at hk; subst hk; exact ⟨_, rfl, h⟩
 | _, _, .cons _ t, k + 1, _, hk => by simp at hk; obtain ⟨x, hx, hr⟩ := bG.get t hk; exact ⟨x, by simpa using hx, hr⟩
theorem bG.append {w : World} {S : Nat -> Prop} : ∀ {cs ds : List C} {xs ys : List Value}, bG w S cs xs -> bG w S ds ys -> bG w S (cs ++ ds) (xs ++ ys)
 | _, _, _, _, .nil, h => h
 | _, _, _, _, .cons h t, k => .cons h (bG.append t k)
def Hdr (w : World) (S : Nat -> Prop) : C -> Option Loc -> Value -> Prop
 | .v u, _, x => x = u /\ plain u = true
 | .sl sz rows, some l, x => x = .slice (some ⟨l.b, l.off, none⟩) rows.length l.cap /\ rows.length <= l.cap /\ l.sz = sz
 | .sl _ rows, none, x => rows = [] /\ x = .slice none 0 0
 | .bx _, some l, x => x = .pointer (some ⟨l.b, l.off, none⟩)
 | .bx _, none, _ => False
 | .fz c, _, x => gd w S c x
 | .fn f caps, _, x => gd w S (.fn f caps) x
 | .dead, _, x => plain x = true
def OW (w : World) (S : Nat -> Prop) : Option Loc -> Rows -> Prop
 | none, rows => rows = []
 | some l, rows => ¬ S l.b /\ rows.length <= l.cap /\ (∀ row ∈ rows, row.length = l.sz) /\
   ∃ cells e lo hi, w.heap[l.b]? = some (.cells cells e (lo, hi)) /\ (l.off + l.cap * l.sz <= cells.size /\ (hi <= cells.size \/ l.sz = 1)) /\ ∀ o, l.off <= o -> o < l.off + l.cap * l.sz -> ¬ (lo <= o /\ o < hi)
structure bf (w : World) (S : Nat -> Prop) (mem : Rows) (γ : Path -> Option Loc) : Prop where
 loc : ∀ q rows, q ≠ [] -> ay mem q = some rows -> OW w S (γ q) rows
 cell : ∀ q rows l i f c, q ≠ [] -> ay mem q = some rows -> γ q = some l -> at2 rows i f = some c ->
  ∃ x, w.cell? ⟨l.b, l.off + i * l.sz + f, none⟩ = some x /\ Hdr w S c (γ (q ++ [(i, f)])) x
 head : ∀ i f c, at2 mem i f = some c -> ∃ x, Hdr w S c (γ [(i, f)]) x
 inj : ∀ q q' rows rows' l l', q ≠ [] -> q' ≠ [] -> ay mem q = some rows -> ay mem q' = some rows' -> γ q = some l -> γ q' = some l' -> l.b = l'.b -> q = q'
theorem Hdr.frame {w w' : World} {S S' : Nat -> Prop} (hS : ∀ b, S b -> S' b) (hw : ∀ b, S b -> w'.heap[b]? = w.heap[b]?) {c : C} {l : Option Loc} {x : Value}
  (h : Hdr w S c l x) : Hdr w' S' c l x := by
 cases c with
 | v u => exact h
 | sl sz rows => cases l <;> exact h
 | bx row => cases l <;> exact h
 | fz c => exact gd.frame hS hw h
 | fn f caps => exact gd.frame hS hw h
 | dead => exact h
theorem Hdr.plain {w : World} {S : Nat -> Prop} {c : C} {l : Option Loc} {x : Value} (h : Hdr w S c l x) : plain x = true := by
 cases c with
 | v u => obtain ⟨rfl, h⟩ := h; exact h
 | sl sz rows => cases l with
  | none => obtain ⟨_, rfl⟩ := h; rfl
  | some l => obtain ⟨rfl, _⟩ := h; rfl
 | bx row => cases l with
  | none => exact h.elim
  | some l => cases h; rfl
 | fz c => exact gd.plain h
 | fn f caps => exact gd.plain h
 | dead => exact h
theorem Hdr.eI {w : World} {S : Nat -> Prop} {c : C} {l : Option Loc} {x : Value} {cr cr' : Rows} (h : Hdr w S c l x) (hr : c.rows = some cr) (hl : cr'.length = cr.length) :
  Hdr w S (c.eI cr') l x := by
 cases c with
 | sl sz rows =>
  simp only [C.rows, Option.some.injEq] at hr
  subst hr
  cases l with
  | none => obtain ⟨he, hx⟩ := h; exact ⟨List.eq_nil_of_length_eq_zero (by rw [hl, he]; rfl), hx⟩
  | some l => simp only [C.eI, Hdr] at h ⊢; rw [hl]; exact h
 | bx row => cases l <;> exact h
 | _ => simp [C.rows] at hr
theorem OW.frame {w w' : World} {S : Nat -> Prop} {l : Option Loc} {rows rows' : Rows} (hw : ∀ k, l = some k -> w'.heap[k.b]? = w.heap[k.b]?) (h : OW w S l rows) (hl : rows'.length = rows.length)
  (hr : ∀ (j : Nat) (row' : List C), rows'[j]? = some row' -> ∃ row : List C, rows[j]? = some row /\ row'.length = row.length) : OW w' S l rows' := by
 cases l with
 | none => exact List.eq_nil_of_length_eq_zero (by rw [hl, (show rows = [] from h)]; rfl)
 | some l =>
  obtain ⟨h1, h2, h3, cells, e, lo, hi, h4, h5⟩ := h
  refine ⟨h1, by omega, fun row hm => ?_, cells, e, lo, hi, by rw [hw l rfl]; exact h4, h5⟩
  obtain ⟨j, hj, he⟩ := List.getElem_of_mem hm
  obtain ⟨row0, h0, hlen⟩ := hr j row (by rw [List.getElem?_eq_getElem hj, he])
  rw [hlen]
  exact h3 row0 (List.mem_of_getElem? h0)
end Go.Mv
namespace Go.Mv
open Go.RowKit
def cS (x : C) (s : Path) : Option Rows := x.rows.bind (ay · s)
def nd (γ : Path -> Option Loc) (q : Path) (i f : Nat) (δ : Path -> Option Loc) : Path -> Option Loc :=
 fun p => if q ++ [(i, f)] <+: p then δ (p.drop (q.length + 1)) else γ p
theorem dM (γ : Path -> Option Loc) (q : Path) (i f : Nat) (δ : Path -> Option Loc) (s : Path) : nd γ q i f δ (q ++ (i, f) :: s) = δ s := by
 unfold nd
 rw [if_pos (by exact ⟨s, by simp⟩)]
 congr 1
 simp [List.drop_append]
theorem bu {γ : Path -> Option Loc} {q : Path} {i f : Nat} {δ : Path -> Option Loc} {p : Path} (h : ¬ q ++ [(i, f)] <+: p) : nd γ q i f δ p = γ p := by
 unfold nd
 rw [if_neg h]
theorem MD {q q' : Path} {a b : Nat × Nat} (h : q ++ [a] <+: q' ++ [b]) (hn : ¬ q ++ [a] <+: q') : q' = q /\ b = a := by
 obtain ⟨s, hs⟩ := h
 rcases List.eq_nil_or_concat s with rfl | ⟨s, c, rfl⟩
 ·rw [List.append_nil] at hs
  obtain ⟨h1, h2⟩ := List.append_inj' hs rfl
  exact ⟨h1.symm, by simpa using h2.symm⟩
 ·rw [List.concat_eq_append, <- List.append_assoc] at hs
  obtain ⟨h1, _⟩ := List.append_inj' hs rfl
  exact absurd ⟨s, h1⟩ hn
theorem fm {mem rows : Rows} {q : Path} {i f : Nat} {x c : C} (hq : ay mem q = some rows) (hc : at2 rows i f = some c) (q' : Path) (rows' : Rows)
  (h : ay (bh mem q (bz rows i f x)) q' = some rows') :
  (∃ s, q' = q ++ (i, f) :: s /\ cS x s = some rows') \/
  (¬ q ++ [(i, f)] <+: q' /\ ∃ rows0, ay mem q' = some rows0 /\ rows'.length = rows0.length /\
   (∀ (j : Nat) (row' : List C), rows'[j]? = some row' -> ∃ row : List C, rows0[j]? = some row /\ row'.length = row.length) /\
   ∀ i' f' c', at2 rows' i' f' = some c' -> (q' = q /\ i' = i /\ f' = f /\ c' = x) \/
    (¬ (q' = q /\ i' = i /\ f' = f) /\ ∃ c0, at2 rows0 i' f' = some c0 /\ (c' = c0 \/ ∃ cr cr', c0.rows = some cr /\ cr'.length = cr.length /\ c' = c0.eI cr'))) := by
 have hl : (bz rows i f x).length = rows.length := fF _ _ _ _
 by_cases hp : q <+: q'
 ·obtain ⟨s, rfl⟩ := hp
  rw [ck hq hl] at h
  cases s with
  | nil =>
   simp only [ay, Option.some.injEq] at h
   subst h
   refine .inr ⟨fun hpre => ?_, rows, by simpa using hq, hl, fun j row' hj => OD hj, fun i' f' c' hc' => ?_⟩
   ·have := hpre.length_le
    simp at this
    omega
   ·by_cases he : (i, f) = (i', f')
    ·cases he
     rw [dy hc] at hc'
     cases hc'
     exact .inl ⟨by simp, rfl, rfl, rfl⟩
    ·rw [kI he] at hc'
     exact .inr ⟨fun ⟨_, h1, h2⟩ => he (by rw [h1, h2]), c', hc', .inl rfl⟩
  | cons a s =>
   obtain ⟨i1, f1⟩ := a
   simp only [ay] at h
   by_cases he : (i, f) = (i1, f1)
   ·cases he
    rw [dy hc] at h
    exact .inl ⟨s, rfl, by simpa [cS] using h⟩
   ·rw [kI he] at h
    refine .inr ⟨fun hpre => ?_, rows', ?_, rfl, fun j row' hj => ⟨row', hj, rfl⟩, fun i' f' c' hc' => .inr ⟨fun ⟨h1, _⟩ => ?_, c', hc', .inl rfl⟩⟩
    ·rw [List.prefix_append_right_inj] at hpre
     obtain ⟨t, ht⟩ := hpre
     simp at ht
     exact he (by rw [ht.1.1, ht.1.2])
    ·rw [Av, hq]
     simpa [ay] using h
    ·have := congrArg List.length h1
     simp at this
 ·obtain ⟨rows0, h1, h2, h3, h4⟩ := Aw hq hl q' hp rows' h
  refine .inr ⟨fun hpre => hp ((List.prefix_append q [(i, f)]).trans hpre), rows0, h1, h2, h3, fun i' f' c' hc' => .inr ⟨fun ⟨he, _⟩ => hp (he ▸ List.prefix_refl _), ?_⟩⟩
  obtain ⟨c0, hc0, hor⟩ := h4 i' f' c' hc'
  exact ⟨c0, hc0, hor.imp id fun ⟨_, hx⟩ => hx⟩
structure Det (w : World) (S : Nat -> Prop) (x : C) (δ : Path -> Option Loc) (v : Value) : Prop where
 hd : Hdr w S x (δ []) v
 loc : ∀ s rows, cS x s = some rows -> OW w S (δ s) rows
 cell : ∀ s rows l i f c, cS x s = some rows -> δ s = some l -> at2 rows i f = some c ->
  ∃ u, w.cell? ⟨l.b, l.off + i * l.sz + f, none⟩ = some u /\ Hdr w S c (δ (s ++ [(i, f)])) u
 inj : ∀ s s' rows rows' l l', cS x s = some rows -> cS x s' = some rows' -> δ s = some l -> δ s' = some l' -> l.b = l'.b -> s = s'
def pk (mem : Rows) (γ : Path -> Option Loc) (x : C) (δ : Path -> Option Loc) : Prop :=
 ∀ q rows l s rows' l', q ≠ [] -> ay mem q = some rows -> γ q = some l -> cS x s = some rows' -> δ s = some l' -> l.b ≠ l'.b
theorem ca {mem rows : Rows} {q : Path} {i f : Nat} {x : C} (hq : ay mem q = some rows) (hx : at2 rows i f = some x) (s : Path) : ay mem (q ++ (i, f) :: s) = cS x s := by
 rw [Av, hq]
 simp [ay, hx, cS]
theorem bf.det {w : World} {S : Nat -> Prop} {mem rows : Rows} {γ : Path -> Option Loc} (h : bf w S mem γ) {q : Path} {i f : Nat} {x : C}
  (hq : ay mem q = some rows) (hx : at2 rows i f = some x) {v : Value} (hv : Hdr w S x (γ (q ++ [(i, f)])) v) : Det w S x (fun s => γ (q ++ (i, f) :: s)) v := by
 refine ⟨hv, fun s rs hs => h.loc _ _ (by simp) (by rw [ca hq hx]; exact hs), fun s rs l i' f' c hs hl hc => ?_, fun s s' rs rs' l l' hs hs' hl hl' hb => ?_⟩
 ·obtain ⟨u, h1, h2⟩ := h.cell (q ++ (i, f) :: s) rs l i' f' c (by simp) (by rw [ca hq hx]; exact hs) hl hc
  exact ⟨u, h1, by simpa using h2⟩
 ·have := h.inj _ _ rs rs' l l' (by simp) (by simp) (by rw [ca hq hx]; exact hs) (by rw [ca hq hx]; exact hs') hl hl' hb
  simpa using this
theorem cm (w : World) (a : Addr) (u : Value) {k : Nat} (h : k ≠ a.block) : (w.setCell a u).heap[k]? = w.heap[k]? := Below.heap_setCell w a u k h
theorem gT {w : World} {b o : Nat} {cells : Array Value} {e : TypeId} {z : Nat × Nat} (u : Value) (h : w.heap[b]? = some (.cells cells e z)) :
  (w.setCell ⟨b, o, none⟩ u).heap[b]? = some (.cells (cells.setIfInBounds o u) e z) := by
 have hb : b < w.heap.size := (Array.getElem?_eq_some_iff.1 h).1
 simp [World.setCell, Array.getElem?_modify, h]
theorem qu {w : World} {b o b' o' : Nat} (u : Value) (h : ¬ (b = b' /\ o = o')) : (w.setCell ⟨b, o, none⟩ u).cell? ⟨b', o', none⟩ = w.cell? ⟨b', o', none⟩ := by
 by_cases hb : b' = b
 ·subst hb
  have ho : o ≠ o' := fun e => h ⟨rfl, e⟩
  cases hh : w.heap[b']? with
  | none => simp [World.cell?, World.setCell, Array.getElem?_modify, hh]
  | some ob =>
   cases ob <;> simp [World.cell?, World.setCell, Array.getElem?_modify, hh, ho]
 ·exact World.cell?_of_block (w := w) (cm w _ u hb)
theorem qt {w : World} {b o : Nat} {x : Value} (u : Value) (h : w.cell? ⟨b, o, none⟩ = some x) : (w.setCell ⟨b, o, none⟩ u).cell? ⟨b, o, none⟩ = some u := by
 unfold World.cell? at h
 cases hh : w.heap[b]? with
 | none => simp [hh] at h
 | some ob =>
  cases ob <;> simp [hh] at h
  rename_i cells e z
  have ho := (Array.getElem?_eq_some_iff.1 h).1
  simp [World.cell?, gT u hh, ho]
end Go.Mv
namespace Go.Mv
open Go.RowKit
theorem He {q q' : Path} {i f i' f' : Nat} (hn : ¬ q ++ [(i, f)] <+: q') (h : ¬ (q' = q /\ i' = i /\ f' = f)) : ¬ q ++ [(i, f)] <+: q' ++ [(i', f')] := fun hp => by
 obtain ⟨h1, h2⟩ := MD hp hn
 cases h2
 exact h ⟨h1, rfl, rfl⟩
theorem Hdr.yz {w : World} {S : Nat -> Prop} {c : C} {l l' : Option Loc} {x : Value} (hr : c.rows = none) (h : Hdr w S c l x) : Hdr w S c l' x := by
 cases c with
 | sl _ _ => simp [C.rows] at hr
 | bx _ => simp [C.rows] at hr
 | _ => exact h
theorem bf.frame {w w' : World} {S S' : Nat -> Prop} {mem : Rows} {γ : Path -> Option Loc} (h : bf w S mem γ) (hS : ∀ b, S b -> S' b) (hw : ∀ b, S b -> w'.heap[b]? = w.heap[b]?)
  (hm : ∀ q rows l, q ≠ [] -> ay mem q = some rows -> γ q = some l -> w'.heap[l.b]? = w.heap[l.b]? /\ ¬ S' l.b) : bf w' S' mem γ := by
 refine ⟨fun q rows hq hr => ?_, fun q rows l i f c hq hr hl hc => ?_, fun i f c hc => ?_, h.inj⟩
 ·have := h.loc q rows hq hr
  cases hl : γ q with
  | none => rw [hl] at this; exact this
  | some l =>
   rw [hl] at this
   obtain ⟨h1, h2, h3, cells, e, lo, hi, h4, h5⟩ := this
   exact ⟨(hm q rows l hq hr hl).2, h2, h3, cells, e, lo, hi, by rw [(hm q rows l hq hr hl).1]; exact h4, h5⟩
 ·obtain ⟨x, h1, h2⟩ := h.cell q rows l i f c hq hr hl hc
  exact ⟨x, by rw [World.cell?_of_block (w := w) (hm q rows l hq hr hl).1]; exact h1, h2.frame hS hw⟩
 ·obtain ⟨x, hx⟩ := h.head i f c hc
  exact ⟨x, hx.frame hS hw⟩
theorem Det.frame {w w' : World} {S S' : Nat -> Prop} {x : C} {δ : Path -> Option Loc} {v : Value} (h : Det w S x δ v) (hS : ∀ b, S b -> S' b) (hw : ∀ b, S b -> w'.heap[b]? = w.heap[b]?)
  (hm : ∀ s rows l, cS x s = some rows -> δ s = some l -> w'.heap[l.b]? = w.heap[l.b]? /\ ¬ S' l.b) : Det w' S' x δ v := by
 refine ⟨h.hd.frame hS hw, fun s rows hr => ?_, fun s rows l i f c hr hl hc => ?_, h.inj⟩
 ·have := h.loc s rows hr
  cases hl : δ s with
  | none => rw [hl] at this; exact this
  | some l =>
   rw [hl] at this
   obtain ⟨h1, h2, h3, cells, e, lo, hi, h4, h5⟩ := this
   exact ⟨(hm s rows l hr hl).2, h2, h3, cells, e, lo, hi, by rw [(hm s rows l hr hl).1]; exact h4, h5⟩
 ·obtain ⟨u, h1, h2⟩ := h.cell s rows l i f c hr hl hc
  exact ⟨u, by rw [World.cell?_of_block (w := w) (hm s rows l hr hl).1]; exact h1, h2.frame hS hw⟩
theorem bf.rC {w w' : World} {S : Nat -> Prop} {mem rows : Rows} {γ δ : Path -> Option Loc} {q : Path} {i f : Nat} {c x : C} {v : Value}
  (h : bf w S mem γ) (hd : Det w' S x δ v) (ha : pk mem γ x δ) (hq : ay mem q = some rows) (hc : at2 rows i f = some c)
  (hblk : ∀ p rs l, p ≠ [] -> ay mem p = some rs -> γ p = some l -> ∀ cells e z, w.heap[l.b]? = some (.cells cells e z) ->
   ∃ cells', w'.heap[l.b]? = some (.cells cells' e z) /\ cells'.size = cells.size)
  (hcell : ∀ p rs l i' f' c', p ≠ [] -> ay mem p = some rs -> γ p = some l -> at2 rs i' f' = some c' -> ¬ (p = q /\ i' = i /\ f' = f) ->
   w'.cell? ⟨l.b, l.off + i' * l.sz + f', none⟩ = w.cell? ⟨l.b, l.off + i' * l.sz + f', none⟩)
  (hnew : ∀ l, q ≠ [] -> γ q = some l -> w'.cell? ⟨l.b, l.off + i * l.sz + f, none⟩ = some v)
  (hSw : ∀ b, S b -> w'.heap[b]? = w.heap[b]?) :
  bf w' S (bh mem q (bz rows i f x)) (nd γ q i f δ) := by
 have key := @fm mem rows q i f x c hq hc
 refine ⟨fun q' rows' hne hr => ?_, fun q' rows' l i' f' c' hne hr hl hc' => ?_, fun i' f' c' hc' => ?_, fun q1 q2 r1 r2 l1 l2 hn1 hn2 hr1 hr2 hl1 hl2 hb => ?_⟩
 ·rcases key q' rows' hr with ⟨s, rfl, hs⟩ | ⟨hn, rows0, h1, h2, h3, h4⟩
  ·rw [dM]; exact hd.loc s rows' hs
  ·rw [bu hn]
   have := h.loc q' rows0 hne h1
   cases hl : γ q' with
   | none => rw [hl] at this; exact List.eq_nil_of_length_eq_zero (by rw [h2, (show rows0 = [] from this)]; rfl)
   | some l =>
    rw [hl] at this
    obtain ⟨k1, k2, k3, cells, e, lo, hi, k4, k5⟩ := this
    obtain ⟨cells', g1, g2⟩ := hblk q' rows0 l hne h1 hl cells e (lo, hi) k4
    refine ⟨k1, by omega, fun row hm => ?_, cells', e, lo, hi, g1, by rw [g2]; exact k5⟩
    obtain ⟨j, hj, he⟩ := List.getElem_of_mem hm
    obtain ⟨row0, g3, g4⟩ := h3 j row (by rw [List.getElem?_eq_getElem hj, he])
    rw [g4]
    exact k3 row0 (List.mem_of_getElem? g3)
 ·rcases key q' rows' hr with ⟨s, rfl, hs⟩ | ⟨hn, rows0, h1, h2, h3, h4⟩
  ·rw [dM] at hl
   obtain ⟨u, g1, g2⟩ := hd.cell s rows' l i' f' c' hs hl hc'
   refine ⟨u, g1, ?_⟩
   have : q ++ (i, f) :: s ++ [(i', f')] = q ++ (i, f) :: (s ++ [(i', f')]) := by simp
   rw [this, dM]
   exact g2
  ·rw [bu hn] at hl
   rcases h4 i' f' c' hc' with ⟨rfl, rfl, rfl, rfl⟩ | ⟨hno, c0, hc0, hor⟩
   ·refine ⟨v, hnew l hne hl, ?_⟩
    have := dM γ q' i' f' δ []
    rw [this]
    exact hd.hd
   ·obtain ⟨u, g1, g2⟩ := h.cell q' rows0 l i' f' c0 hne h1 hl hc0
    rw [bu (He hn hno)]
    refine ⟨u, by rw [hcell q' rows0 l i' f' c0 hne h1 hl hc0 hno]; exact g1, ?_⟩
    have g3 := g2.frame (fun _ hb => hb) hSw
    rcases hor with rfl | ⟨cr, cr', e1, e2, rfl⟩
    ·exact g3
    ·exact g3.eI e1 e2
 ·have hr : ay (bh mem q (bz rows i f x)) [] = some (bh mem q (bz rows i f x)) := rfl
  rcases key [] _ hr with ⟨s, hs, _⟩ | ⟨hn, rows0, h1, h2, h3, h4⟩
  ·simp at hs
  ·simp only [ay, Option.some.injEq] at h1
   subst h1
   rcases h4 i' f' c' hc' with ⟨rfl, rfl, rfl, rfl⟩ | ⟨hno, c0, hc0, hor⟩
   ·refine ⟨v, ?_⟩
    have := dM γ [] i' f' δ []
    simp only [List.nil_append] at this
    rw [this]
    exact hd.hd
   ·obtain ⟨u, g2⟩ := h.head i' f' c0 hc0
    have := He hn hno
    simp only [List.nil_append] at this
    rw [bu this]
    have g3 := g2.frame (fun _ hb => hb) hSw
    rcases hor with rfl | ⟨cr, cr', e1, e2, rfl⟩
    ·exact ⟨u, g3⟩
    ·exact ⟨u, g3.eI e1 e2⟩
 ·rcases key q1 r1 hr1 with ⟨s1, rfl, hs1⟩ | ⟨hm1, rows1, k1, _⟩
  ·rw [dM] at hl1
   rcases key q2 r2 hr2 with ⟨s2, rfl, hs2⟩ | ⟨hm2, rows2, k2, _⟩
   ·rw [dM] at hl2
    rw [hd.inj s1 s2 r1 r2 l1 l2 hs1 hs2 hl1 hl2 hb]
   ·rw [bu hm2] at hl2
    exact absurd hb.symm (ha q2 rows2 l2 s1 r1 l1 hn2 k2 hl2 hs1 hl1)
  ·rw [bu hm1] at hl1
   rcases key q2 r2 hr2 with ⟨s2, rfl, hs2⟩ | ⟨hm2, rows2, k2, _⟩
   ·rw [dM] at hl2
    exact absurd hb (ha q1 rows1 l1 s2 r2 l2 hn1 k1 hl1 hs2 hl2)
   ·rw [bu hm2] at hl2
    exact h.inj q1 q2 rows1 rows2 l1 l2 hn1 hn2 k1 k2 hl1 hl2 hb
theorem Det.th {w : World} {S : Nat -> Prop} {x : C} {v : Value} (hx : x.rows = none) (hv : Hdr w S x none v) : Det w S x (fun _ => none) v :=
 ⟨hv, fun s rows hs => by simp [cS, hx] at hs, fun s rows l i f c hs => by simp [cS, hx] at hs, fun s s' rows rows' l l' hs => by simp [cS, hx] at hs⟩
theorem pk.th {mem : Rows} {γ δ : Path -> Option Loc} {x : C} (hx : x.rows = none) : pk mem γ x δ :=
 fun q rows l s rows' l' _ _ _ hs => by simp [cS, hx] at hs
theorem bf.rD {w : World} {S : Nat -> Prop} {mem : Rows} {γ δ : Path -> Option Loc} {i f : Nat} {c x : C} {v : Value}
  (h : bf w S mem γ) (hd : Det w S x δ v) (ha : pk mem γ x δ) (hc : at2 mem i f = some c) : bf w S (bz mem i f x) (nd γ [] i f δ) :=
 h.rC (q := []) hd ha rfl hc (fun _ _ _ _ _ _ cells _ _ hh => ⟨cells, hh, rfl⟩) (fun _ _ _ _ _ _ _ _ _ _ _ => rfl) (fun _ hq => absurd rfl hq) (fun _ _ => rfl)
theorem bf.kill {w : World} {S : Nat -> Prop} {mem rows : Rows} {γ : Path -> Option Loc} {q : Path} {i f : Nat} {c : C}
  (h : bf w S mem γ) (hq : ay mem q = some rows) (hc : at2 rows i f = some c) : bf w S (bh mem q (bz rows i f .dead)) (nd γ q i f fun _ => none) := by
 by_cases hne : q = []
 ·subst hne
  simp only [ay, Option.some.injEq] at hq
  subst hq
  obtain ⟨x, hx⟩ := h.head i f c hc
  exact h.rD (Det.th (x := .dead) (v := x) rfl hx.plain) (pk.th rfl) hc
 ·cases hl : γ q with
  | none =>
   have := h.loc q rows hne hq
   rw [hl] at this
   rw [(show rows = [] from this)] at hc
   simp [at2] at hc
  | some l =>
   obtain ⟨x, h1, h2⟩ := h.cell q rows l i f c hne hq hl hc
   exact h.rC (Det.th (x := .dead) (v := x) rfl h2.plain) (pk.th rfl) hq hc (fun _ _ _ _ _ _ cells _ _ hh => ⟨cells, hh, rfl⟩) (fun _ _ _ _ _ _ _ _ _ _ _ => rfl)
    (fun l' _ hl' => by rw [hl] at hl'; cases hl'; exact h1) (fun _ _ => rfl)
theorem bf.UZ {w : World} {S : Nat -> Prop} {mem rows : Rows} {γ δ : Path -> Option Loc} {q : Path} {i f : Nat} {c x : C} {v : Value} {l : Loc}
  (h : bf w S mem γ) (hd : Det w S x δ v) (ha : pk mem γ x δ) (hne : q ≠ []) (hq : ay mem q = some rows) (hc : at2 rows i f = some c) (hl : γ q = some l) :
  bf (w.setCell ⟨l.b, l.off + i * l.sz + f, none⟩ v) S (bh mem q (bz rows i f x)) (nd γ q i f δ) := by
 have hloc := h.loc q rows hne hq
 rw [hl] at hloc
 obtain ⟨hS, hcap, hrow, -⟩ := hloc
 obtain ⟨u0, hu0, -⟩ := h.cell q rows l i f c hne hq hl hc
 have hSw : ∀ b, S b -> (w.setCell ⟨l.b, l.off + i * l.sz + f, none⟩ v).heap[b]? = w.heap[b]? := fun b hb => cm _ _ _ (fun e => hS (by have e' : b = l.b := e; rw [<- e']; exact hb))
 have hidx : ∀ i' f' c', at2 rows i' f' = some c' -> f' < l.sz := fun i' f' c' hc' => by
  unfold at2 at hc'
  cases hr : rows[i']? with
  | none => rw [hr] at hc'; cases hc'
  | some r =>
   rw [hr] at hc'
   simp only [Option.bind_some] at hc'
   have := (List.getElem?_eq_some_iff.1 hc').1
   rwa [hrow r (List.mem_of_getElem? hr)] at this
 refine h.rC (hd.frame (fun _ hb => hb) hSw (fun s rs l' hs hl' => ⟨cm _ _ _ (fun e => ha q rows l s rs l' hne hq hl hs hl' e.symm), ?_⟩)) ha hq hc
  (fun p rs l' hp hr hl' cells e z hh => ?_) (fun p rs l' i' f' c' hp hr hl' hc' hno => ?_) (fun l' _ hl' => by rw [hl] at hl'; cases hl'; exact qt v hu0) hSw
 ·have := hd.loc s rs hs
  rw [hl'] at this
  exact this.1
 ·by_cases hb : l'.b = l.b
  ·exact ⟨_, by rw [hb] at hh ⊢; exact gT v hh, by simp⟩
  ·exact ⟨cells, by rw [cm _ _ _ hb]; exact hh, rfl⟩
 ·refine qu v fun ⟨hb, ho⟩ => ?_
  have hpq := h.inj q p rows rs l l' hne hp hq hr hl hl' hb
  subst hpq
  rw [hl] at hl'
  cases hl'
  rw [hq] at hr
  cases hr
  have g1 := hidx i f c hc
  have g2 := hidx i' f' c' hc'
  have hii : i = i' := by
   have e : i * l.sz + f = i' * l.sz + f' := by omega
   have e1 : (i * l.sz + f) / l.sz = i := by rw [Nat.mul_comm, Nat.mul_add_div (by omega)]; simp [Nat.div_eq_of_lt g1]
   have e2 : (i' * l.sz + f') / l.sz = i' := by rw [Nat.mul_comm, Nat.mul_add_div (by omega)]; simp [Nat.div_eq_of_lt g2]
   rw [<- e1, <- e2, e]
  subst hii
  exact hno ⟨rfl, rfl, by omega⟩
end Go.Mv
namespace Go.Mv
open Go.RowKit
inductive T1 where
 | unk
 | c (c : C)
 | pl (p : Path) (i f : Nat)
 | so (q : Path) (i f n : Nat)
 | sp (p : Path) (lo n : Nat)
 | fp (row : List C) (f : Nat)
inductive T2 where
 | one (t : T1)
 | agg (l : List T1)
inductive TV where
 | one (t : T1)
 | agg (l : List T1)
 | tup (l : List T2)
def au (w : World) (S : Nat -> Prop) (γ : Path -> Option Loc) : T1 -> Value -> Prop
 | .unk, _ => True
 | .c c, x => gd w S c x
 | .pl p i f, x => ∃ l, γ p = some l /\ x = .pointer (some ⟨l.b, l.off + i * l.sz + f, none⟩)
 | .so q i f n, x => (∃ l, γ (q ++ [(i, f)]) = some l /\ x = .slice (some ⟨l.b, l.off, none⟩) n l.cap /\ n <= l.cap) \/ (γ (q ++ [(i, f)]) = none /\ n = 0 /\ x = .slice none 0 0)
 | .sp p lo n, x => (∃ l cap, γ p = some l /\ x = .slice (some ⟨l.b, l.off + lo * l.sz, none⟩) n cap /\ n <= cap) \/ (n = 0 /\ ∃ a cap, x = .slice a 0 cap)
 | .fp row f, x => ∃ b off vals, S b /\ bG w S row vals /\ (∀ k v, vals[k]? = some v -> w.cell? ⟨b, off + k, none⟩ = some v) /\ x = .pointer (some ⟨b, off + f, none⟩)
def cK {α β : Type} (R : α -> β -> Prop) (as : List α) (bs : List β) : Prop := as.length = bs.length /\ ∀ (k : Nat) (a : α) (b : β), as[k]? = some a -> bs[k]? = some b -> R a b
theorem cK.nil {α β : Type} {R : α -> β -> Prop} : cK R [] [] := ⟨rfl, fun k a b h => by simp at h⟩
theorem cK.cons {α β : Type} {R : α -> β -> Prop} {a : α} {b : β} {as : List α} {bs : List β} (h : R a b) (t : cK R as bs) : cK R (a :: as) (b :: bs) :=
 ⟨by simp [t.1], fun k x y hx hy => by
  cases k with
  | zero => simp at hx hy; subst hx; subst hy; exact h
  | succ k => simp at hx hy; exact t.2 k x y hx hy⟩
theorem cK.imp {α β : Type} {R R' : α -> β -> Prop} {as : List α} {bs : List β} (h : cK R as bs) (k : ∀ a b, a ∈ as -> R a b -> R' a b) : cK R' as bs :=
 ⟨h.1, fun j a b ha hb => k a b (List.mem_of_getElem? ha) (h.2 j a b ha hb)⟩
theorem cK.dQ {α β : Type} {R : α -> β -> Prop} {a : α} {as : List α} {bs : List β} (h : cK R (a :: as) bs) : ∃ b bs', bs = b :: bs' /\ R a b /\ cK R as bs' := by
 cases bs with
 | nil => have := h.1; simp at this
 | cons b bs =>
  exact ⟨b, bs, rfl, h.2 0 a b rfl rfl, by simpa using h.1, fun k x y hx hy => h.2 (k + 1) x y (by simpa using hx) (by simpa using hy)⟩
theorem cK.get {α β : Type} {R : α -> β -> Prop} {as : List α} {bs : List β} (h : cK R as bs) {k : Nat} {a : α} (ha : as[k]? = some a) : ∃ b, bs[k]? = some b /\ R a b := by
 have hk : k < bs.length := by rw [<- h.1]; exact (List.getElem?_eq_some_iff.1 ha).1
 exact ⟨bs[k], List.getElem?_eq_getElem hk, h.2 k a _ ha (List.getElem?_eq_getElem hk)⟩
def OX (w : World) (S : Nat -> Prop) (γ : Path -> Option Loc) : T2 -> Value -> Prop
 | .one t, x => au w S γ t x
 | .agg l, x => ∃ xs : List Value, x = .agg xs.toArray /\ cK (au w S γ) l xs
def aD (w : World) (S : Nat -> Prop) (γ : Path -> Option Loc) : TV -> Value -> Prop
 | .one t, x => au w S γ t x
 | .agg l, x => ∃ xs : List Value, x = .agg xs.toArray /\ cK (au w S γ) l xs
 | .tup l, x => ∃ xs : List Value, x = .tuple xs.toArray /\ cK (OX w S γ) l xs
def TV.cells : TV -> List T1
 | .one t => [t]
 | .agg l => l
 | .tup l => l.flatMap fun | .one t => [t] | .agg l => l
def TV.bX (g : T1 -> T1) : TV -> TV
 | .one t => .one (g t)
 | .agg l => .agg (l.map g)
 | .tup l => .tup (l.map fun | .one t => .one (g t) | .agg l => .agg (l.map g))
theorem cK.ke {α β γ : Type} {R : α -> β -> Prop} {R' : γ -> β -> Prop} {as : List α} {bs : List β} (g : α -> γ) (h : cK R as bs) (k : ∀ a b, R a b -> R' (g a) b) : cK R' (as.map g) bs :=
 ⟨by simpa using h.1, fun j a b ha hb => by
  rw [List.getElem?_map] at ha
  cases hx : as[j]? with
  | none => rw [hx] at ha; cases ha
  | some x => rw [hx] at ha; cases ha; exact k x b (h.2 j x b hx hb)⟩
theorem aD.bX {w w' : World} {S S' : Nat -> Prop} {γ γ' : Path -> Option Loc} {g : T1 -> T1} (h : ∀ t x, au w S γ t x -> au w' S' γ' (g t) x) :
  ∀ {t : TV} {x : Value}, aD w S γ t x -> aD w' S' γ' (t.bX g) x
 | .one t, x, ht => h t x ht
 | .agg l, x, ⟨xs, hx, hl⟩ => ⟨xs, hx, hl.ke g fun a b hab => h a b hab⟩
 | .tup l, x, ⟨xs, hx, hl⟩ => ⟨xs, hx, hl.ke _ fun a b hab => by
   cases a with
   | one t => exact h t b hab
   | agg l => obtain ⟨ys, hy, hm⟩ := hab; exact ⟨ys, hy, hm.ke g fun a b hab => h a b hab⟩⟩
theorem aD.imp {w w' : World} {S S' : Nat -> Prop} {γ γ' : Path -> Option Loc} (h : ∀ t x, au w S γ t x -> au w' S' γ' t x) :
  ∀ {t : TV} {x : Value}, aD w S γ t x -> aD w' S' γ' t x
 | .one t, x, ht => h t x ht
 | .agg l, x, ⟨xs, hx, hl⟩ => ⟨xs, hx, hl.imp fun a b _ hab => h a b hab⟩
 | .tup l, x, ⟨xs, hx, hl⟩ => ⟨xs, hx, hl.imp fun a b _ hab => by
   cases a with
   | one t => exact h t b hab
   | agg l => obtain ⟨ys, hy, hm⟩ := hab; exact ⟨ys, hy, hm.imp fun a b _ hab => h a b hab⟩⟩
def Gp : Path -> Path -> Bool
 | [], _ => true
 | _ :: _, [] => false
 | (_, f) :: a, (_, f') :: b => f == f' && Gp a b
def eV : Path -> Path -> Bool
 | [], _ => true
 | _ :: _, [] => false
 | (i, f) :: a, (i', f') :: b => i == i' && f == f' && Gp a b
theorem Qj {a b : Path} (h : a <+: b) : Gp a b = true := by
 induction a generalizing b with
 | nil => rfl
 | cons x a ih =>
  obtain ⟨i, f⟩ := x
  cases b with
  | nil => simp at h
  | cons y b =>
   obtain ⟨i', f'⟩ := y
   rw [List.cons_prefix_cons] at h
   obtain ⟨he, h⟩ := h
   cases he
   simp [Gp, ih h]
theorem eW {a b : Path} (h : a <+: b) : eV a b = true := by
 cases a with
 | nil => rfl
 | cons x a =>
  obtain ⟨i, f⟩ := x
  cases b with
  | nil => simp at h
  | cons y b =>
   obtain ⟨i', f'⟩ := y
   rw [List.cons_prefix_cons] at h
   obtain ⟨he, h⟩ := h
   cases he
   simp [eV, Qj h]
def T1.forget (a : Path) : T1 -> T1
 | .pl p i f => if eV a p then .unk else .pl p i f
 | .so q i f n => if eV a (q ++ [(i, f)]) then .unk else .so q i f n
 | .sp p lo n => if eV a p then .unk else .sp p lo n
 | t => t
structure St where
 t : List TV
 m : Rows
def St.forget (st : St) (a : Path) : St := { st with t := st.t.map (TV.bX (T1.forget a)) }
theorem au.frame {w w' : World} {S S' : Nat -> Prop} {γ : Path -> Option Loc} (hS : ∀ b, S b -> S' b) (hw : ∀ b, S b -> w'.heap[b]? = w.heap[b]?) :
  ∀ {t : T1} {x : Value}, au w S γ t x -> au w' S' γ t x
 | .unk, _, _ => trivial
 | .c _, _, h => gd.frame hS hw h
 | .pl _ _ _, _, h => h
 | .so _ _ _ _, _, h => h
 | .sp _ _ _, _, h => h
 | .fp _ _, _, ⟨b, off, vals, h1, h2, h3, h4⟩ => ⟨b, off, vals, hS b h1, bG.frame hS hw h2, fun k v hk => by rw [World.cell?_of_block (w := w) (hw b h1)]; exact h3 k v hk, h4⟩
theorem au.forget {w : World} {S : Nat -> Prop} {γ γ' : Path -> Option Loc} {a : Path} (hγ : ∀ p, ¬ a <+: p -> γ' p = γ p) : ∀ {t : T1} {x : Value}, au w S γ t x -> au w S γ' (t.forget a) x
 | .unk, _, _ => trivial
 | .c _, _, h => h
 | .fp _ _, _, h => h
 | .pl p i f, x, h => by
  by_cases hm : eV a p = true
  ·rw [show (T1.pl p i f).forget a = T1.unk from if_pos hm]; trivial
  ·rw [show (T1.pl p i f).forget a = T1.pl p i f from if_neg hm]
   show ∃ l, γ' p = some l /\ _
   rw [hγ p (fun hp => hm (eW hp))]
   exact h
 | .so q i f n, x, h => by
  by_cases hm : eV a (q ++ [(i, f)]) = true
  ·rw [show (T1.so q i f n).forget a = T1.unk from if_pos hm]; trivial
  ·rw [show (T1.so q i f n).forget a = T1.so q i f n from if_neg hm]
   show (∃ l, γ' (q ++ [(i, f)]) = some l /\ _) \/ (γ' (q ++ [(i, f)]) = none /\ _)
   rw [hγ _ (fun hp => hm (eW hp))]
   exact h
 | .sp p lo n, x, h => by
  by_cases hm : eV a p = true
  ·rw [show (T1.sp p lo n).forget a = T1.unk from if_pos hm]; trivial
  ·rw [show (T1.sp p lo n).forget a = T1.sp p lo n from if_neg hm]
   show (∃ l cap, γ' p = some l /\ _) \/ _
   rw [hγ p (fun hp => hm (eW hp))]
   exact h
theorem aD.forget {w : World} {S : Nat -> Prop} {γ γ' : Path -> Option Loc} {a : Path} (hγ : ∀ p, ¬ a <+: p -> γ' p = γ p) {t : TV} {x : Value} (h : aD w S γ t x) :
  aD w S γ' (t.bX (T1.forget a)) x := aD.bX (fun _ _ ht => au.forget hγ ht) h
theorem bf.congr {w : World} {S : Nat -> Prop} {mem : Rows} {γ γ' : Path -> Option Loc} (h : bf w S mem γ) (hγ : ∀ q rows, q ≠ [] -> ay mem q = some rows -> γ' q = γ q)
  (hc : ∀ q rows i f c, ay mem q = some rows -> at2 rows i f = some c -> c.rows = none \/ γ' (q ++ [(i, f)]) = γ (q ++ [(i, f)])) : bf w S mem γ' := by
 refine ⟨fun q rows hq hr => by rw [hγ q rows hq hr]; exact h.loc q rows hq hr, fun q rows l i f c hq hr hl hcc => ?_, fun i f c hcc => ?_,
  fun q q' rows rows' l l' hq hq' hr hr' hl hl' => h.inj q q' rows rows' l l' hq hq' hr hr' (by rw [<- hγ q rows hq hr]; exact hl) (by rw [<- hγ q' rows' hq' hr']; exact hl')⟩
 ·rw [hγ q rows hq hr] at hl
  obtain ⟨x, h1, h2⟩ := h.cell q rows l i f c hq hr hl hcc
  refine ⟨x, h1, ?_⟩
  rcases hc q rows i f c hr hcc with hn | he
  ·exact h2.yz hn
  ·rw [he]; exact h2
 ·obtain ⟨x, hx⟩ := h.head i f c hcc
  rcases hc [] mem i f c rfl hcc with hn | he
  ·exact ⟨x, hx.yz hn⟩
  ·exact ⟨x, by simp only [List.nil_append] at he; rw [he]; exact hx⟩
theorem bf.Va {w : World} {S : Nat -> Prop} {mem rows : Rows} {γ δ : Path -> Option Loc} {q : Path} {i f : Nat} {c x : C} (hq : ay mem q = some rows) (hc : at2 rows i f = some c)
  (hx : x.rows = none) (h : bf w S (bh mem q (bz rows i f x)) (nd γ q i f δ)) : bf w S (bh mem q (bz rows i f x)) γ := by
 have key := @fm mem rows q i f x c hq hc
 refine h.congr (fun q' rows' hne hr => ?_) (fun q' rows' i' f' c' hr hc' => ?_)
 ·rcases key q' rows' hr with ⟨s, rfl, hs⟩ | ⟨hn, _⟩
  ·simp [cS, hx] at hs
  ·rw [bu hn]
 ·rcases key q' rows' hr with ⟨s, rfl, hs⟩ | ⟨hn, rows0, _, _, _, h4⟩
  ·simp [cS, hx] at hs
  ·rcases h4 i' f' c' hc' with ⟨_, _, _, rfl⟩ | ⟨hno, _⟩
   ·exact .inl hx
   ·exact .inr (by rw [bu (He hn hno)])
end Go.Mv
namespace Go.Mv
open Go.RowKit
structure da where
 w : World
 S : Nat -> Prop
 F : Nat -> Nat -> Prop
 np : Nat
 g : Path -> Option Loc
structure Frame (B : da) (w : World) : Prop where
 os : w.os = B.w.os
 tape : w.tape = B.w.tape
 output : w.output = B.w.output
 size : B.w.heap.size <= w.heap.size
 all : ∀ b, b < B.w.heap.size -> (∀ o, ¬ B.F b o) -> w.heap[b]? = B.w.heap[b]?
 cells : ∀ b cells e z, B.w.heap[b]? = some (.cells cells e z) -> ∃ cells', w.heap[b]? = some (.cells cells' e z) /\ cells'.size = cells.size /\ ∀ o, ¬ B.F b o -> cells'[o]? = cells[o]?
theorem Frame.refl (B : da) : Frame B B.w := ⟨rfl, rfl, rfl, Nat.le_refl _, fun _ _ _ => rfl, fun _ cells _ _ h => ⟨cells, h, rfl, fun _ _ => rfl⟩⟩
theorem Frame.drew {B : da} {w : World} (h : Frame B w) (n : Nat) : Frame B { w with drawn := n } := ⟨h.os, h.tape, h.output, h.size, h.all, h.cells⟩
theorem cH (w : World) (o : Obj) {b : Nat} (h : b < w.heap.size) : (w.alloc o).heap[b]? = w.heap[b]? := Below.heap_alloc w o b h
theorem jr (w : World) (o : Obj) : (w.alloc o).heap[w.heap.size]? = some o := Array.getElem?_push_size
theorem bT {w : World} {b : Nat} {o : Obj} (h : w.heap[b]? = some o) : b < w.heap.size := (Array.getElem?_eq_some_iff.1 h).1
theorem Frame.alloc {B : da} {w : World} (h : Frame B w) (o : Obj) : Frame B (w.alloc o) := by
 refine ⟨h.os, h.tape, h.output, ?_, fun b hb hF => ?_, fun b cells e z hh => ?_⟩
 ·show B.w.heap.size <= (w.heap.push o).size
  rw [Array.size_push]
  exact Nat.le_succ_of_le h.size
 ·rw [cH w o (by have := h.size; omega)]; exact h.all b hb hF
 ·obtain ⟨cells', h1, h2⟩ := h.cells b cells e z hh
  exact ⟨cells', by rw [cH w o (bT h1)]; exact h1, h2⟩
def yN (B : da) (l : Loc) : Prop := B.w.heap.size <= l.b \/ (∃ o, B.F l.b o) /\ ∀ o, l.off <= o -> o < l.off + l.cap * l.sz -> B.F l.b o
theorem Frame.setCell {B : da} {w : World} (h : Frame B w) {b o : Nat} (ho : B.w.heap.size <= b \/ B.F b o) (u : Value) : Frame B (w.setCell ⟨b, o, none⟩ u) := by
 refine ⟨h.os, h.tape, h.output, ?_, fun b' hb hF => ?_, fun b' cells e z hh => ?_⟩
 ·simp only [World.setCell, Array.size_modify]; exact h.size
 ·have hne : b' ≠ b := fun he => by
   subst he
   rcases ho with h1 | h1
   ·omega
   ·exact hF o h1
  rw [cm w _ u hne]; exact h.all b' hb hF
 ·obtain ⟨cells', h1, h2, h3⟩ := h.cells b' cells e z hh
  by_cases hb : b' = b
  ·subst hb
   have hF : B.F b' o := ho.resolve_left (by have := bT hh; omega)
   refine ⟨_, gT u h1, by simpa using h2, fun o' ho' => ?_⟩
   have hne : o ≠ o' := fun he => ho' (he ▸ hF)
   rw [Array.getElem?_setIfInBounds_ne hne]
   exact h3 o' ho'
  ·exact ⟨cells', by rw [cm w _ u hb]; exact h1, h2, h3⟩
structure Rel (B : da) (S : Nat -> Prop) (γ : Path -> Option Loc) (st : St) (a : Act) (w : World) : Prop where
 sS : ∀ b, B.S b -> S b
 lt : ∀ b, S b -> b < w.heap.size
 mem : bf w S st.m γ
 tv : ∀ (k : Nat) (t : TV), st.t[k]? = some t -> aD w S γ t (a.tmps.getD k undef)
 size : st.t.length = a.tmps.size
 msize : st.m.length = st.t.length
 defers : a.defers = []
 own : ∀ q rows l, q ≠ [] -> ay st.m q = some rows -> γ q = some l -> yN B l
 fix : ∀ i f c, i < B.np -> at2 st.m i f = some c -> c.rows ≠ none -> γ [(i, f)] = B.g [(i, f)]
 fr : Frame B w
def lz (B : da) (st : St) (a : Act) (w : World) : Prop := ∃ S γ, Rel B S γ st a w /\ ∀ b, S b -> B.S b \/ B.w.heap.size <= b
def NB (v : Value) : T1 := if plain v then .c (.v v) else .unk
def yh : Value -> TV
 | .agg cs => .agg (cs.toList.map NB)
 | v => .one (NB v)
def evT (st : St) : Operand -> TV
 | .tmp k => (st.t[k]?).getD (.one .unk)
 | .const v => yh v
 | .global _ => .one .unk
 | .func f => .one (.c (.fn f []))
theorem DG (w : World) (S : Nat -> Prop) (γ : Path -> Option Loc) (v : Value) : au w S γ (NB v) v := by
 unfold NB
 split
 ·rename_i h; exact .v h
 ·trivial
theorem re (w : World) (S : Nat -> Prop) (γ : Path -> Option Loc) (v : Value) : aD w S γ (yh v) v := by
 unfold yh
 split
 ·rename_i cs
  refine ⟨cs.toList, by simp, by simp, fun k a b ha hb => ?_⟩
  rw [List.getElem?_map, hb] at ha
  cases ha
  exact DG _ _ _ _
 ·exact DG _ _ _ _
theorem Rel.evT {B : da} {S : Nat -> Prop} {γ : Path -> Option Loc} {st : St} {a : Act} {w : World} (h : Rel B S γ st a w) (x : Operand) : aD w S γ (Mv.evT st x) (a.eval x) := by
 cases x with
 | tmp k =>
  show aD w S γ ((st.t[k]?).getD (.one .unk)) (a.tmps.getD k undef)
  cases hk : st.t[k]? with
  | none => trivial
  | some t => exact h.tv k t hk
 | const v => exact re _ _ _ _
 | global g => exact trivial
 | func f => exact .fn .nil
def St.put (st : St) (d : Option Tmp) (t : TV) : St :=
 match d with
 | some k => { st with t := st.t.set k t }
 | none => st
theorem Rel.put {B : da} {S : Nat -> Prop} {γ : Path -> Option Loc} {st : St} {a : Act} {w : World} (h : Rel B S γ st a w) {t : TV} {v : Value} (hv : aD w S γ t v) (d : Option Tmp) :
  Rel B S γ (st.put d t) (a.put d v) w := by
 cases d with
 | none => exact h
 | some k =>
  refine ⟨h.sS, h.lt, h.mem, fun j t' hj => ?_, by simp [St.put, Act.put, h.size], by simp [St.put, h.msize], h.defers, h.own, h.fix, h.fr⟩
  simp only [St.put, Act.put] at hj ⊢
  by_cases hk : k = j
  ·subst hk
   have hlt : k < st.t.length := by
    have := (List.getElem?_eq_some_iff.1 hj).1
    simpa using this
   rw [List.getElem?_set_self hlt] at hj
   cases hj
   have : k < a.tmps.size := by rw [<- h.size]; exact hlt
   simp [Array.getD, this]
   exact hv
  ·rw [List.getElem?_set_ne hk] at hj
   have := h.tv j t' hj
   simp only [Array.getD_eq_getD_getElem?] at this ⊢
   rw [Array.getElem?_setIfInBounds_ne hk]
   exact this
end Go.Mv
namespace Go.Mv
open Go.RowKit
inductive TK where
 | int (k : IntKind)
 | bool
 | string
 | slice (e : TypeId)
 | struct (fs : List (Nat × TypeId))
 | other
inductive EK where
 | int (k : IntKind)
 | str
 | bool
structure jj where
 k : TK
 size : Nat
 bytes : Nat
 zero : Value
 eqs : Option (List EK) := none
 szs : List Nat := []
def eqV : EK -> Value -> Value -> Option Bool
 | .int k, .int k1 a, .int k2 b => if k1 = k /\ k2 = k then some (a == b) else none
 | .str, .string a, .string b => some (a.toList == b.toList)
 | .bool, .bool a, .bool b => some (a == b)
 | _, _, _ => none
def Pq : List EK -> List Value -> List Value -> Option Bool
 | [], [], [] => some true
 | k :: ks, a :: as, b :: bs => match eqV k a b, Pq ks as bs with
  | some x, some y => some (x && y)
  | _, _ => none
 | _, _, _ => none
def XE (P : Program) (t : TypeId) (ks : List EK) : Prop :=
 P.eqGuardType P.depth t = false /\ ∀ (w : World) (xs ys : List Value) (b : Bool), Pq ks xs ys = some b -> (Op.equal t (.agg xs.toArray) (.agg ys.toArray)).run P w = .ok b w
def TK.OK (P : Program) (t : TypeId) : TK -> Prop
 | .int k => P.underlying t = some (.int k)
 | .bool => P.underlying t = some .bool
 | .string => P.underlying t = some .string
 | .slice e => P.underlying t = some (.slice e)
 | .struct fs => ∃ fields, P.underlying t = some (.struct fields) /\ fields.toList.map (fun f => (f.offset, f.type)) = fs
 | .other => ∃ d, P.underlying t = some d /\ (match d with | .struct _ | .array _ _ => False | _ => True)
abbrev Types := TypeId -> Option jj
def jj.OK (P : Program) (t : TypeId) (i : jj) : Prop :=
 i.k.OK P t /\ (∃ inf, P.info? t = some inf /\ inf.zero = some i.zero /\ inf.size = i.size /\ inf.bytes = i.bytes) /\ (∀ ks, i.eqs = some ks -> XE P t ks)
def lT (P : Program) (Ty : Types) : Prop := ∀ t i, Ty t = some i -> i.OK P t
def TK.agg : TK -> Bool
 | .struct _ => true
 | _ => false
section
variable {P : Program} {w : World} {t : TypeId} {i : jj}
theorem run_typeInfo (h : i.OK P t) : ∃ inf, (typeInfo t).run P w = .ok inf w /\ inf.zero = some i.zero /\ inf.size = i.size /\ inf.bytes = i.bytes := by
 obtain ⟨_, ⟨inf, h1, h2⟩, _⟩ := h
 exact ⟨inf, by simp [typeInfo, h1], h2⟩
theorem run_sizeOf (h : i.OK P t) : (sizeOf t).run P w = .ok i.size w := by
 obtain ⟨inf, h1, _, h2, _⟩ := run_typeInfo (w := w) h
 simp [sizeOf, h1, h2]
theorem vm (h : i.OK P t) : (zeroValue t).run P w = .ok i.zero w := by
 obtain ⟨inf, h1, h2, _⟩ := run_typeInfo (w := w) h
 simp [zeroValue, h1, h2]
theorem run_underlying {d : TypeDesc} (h : P.underlying t = some d) : (underlying t).run P w = .ok d w := by
 simp [underlying, h]
theorem BR (h : i.OK P t) : (isAgg t).run P w = .ok i.k.agg w := by
 obtain ⟨h, _⟩ := h
 unfold TK.OK at h
 cases hk : i.k with
 | int k => rw [hk] at h; simp [isAgg, run_underlying h, TK.agg]
 | bool => rw [hk] at h; simp [isAgg, run_underlying h, TK.agg]
 | string => rw [hk] at h; simp [isAgg, run_underlying h, TK.agg]
 | slice e => rw [hk] at h; simp [isAgg, run_underlying h, TK.agg]
 | struct fs => rw [hk] at h; obtain ⟨fields, h, _⟩ := h; simp [isAgg, run_underlying h, TK.agg]
 | other =>
  rw [hk] at h
  obtain ⟨d, h, hd⟩ := h
  cases d <;> first | exact hd.elim | simp [isAgg, run_underlying h, TK.agg]
end
theorem add_eq (b o n : Nat) : (⟨b, o, none⟩ : Addr).add n = ⟨b, o + n, none⟩ := by
 unfold Addr.add
 split
 ·rename_i h; subst h; rfl
 ·rfl
theorem run_loadCellsFrom (P : Program) (w : World) (b o : Nat) : ∀ (n i : Nat) (vals : List Value) (acc : Array Value), vals.length = n -> (∀ k v, vals[k]? = some v -> w.cell? ⟨b, o + i + k, none⟩ = some v) ->
  (loadCellsFrom ⟨b, o, none⟩ i n acc).run P w = .ok (acc ++ vals.toArray) w := by
 intro n
 induction n with
 | zero => intro i vals acc hl _; have := List.eq_nil_of_length_eq_zero hl; subst this; simp [loadCellsFrom]
 | succ n ih =>
  intro i vals acc hl hv
  cases vals with
  | nil => simp at hl
  | cons v vals =>
   have h0 : w.cell? ⟨b, o + i, none⟩ = some v := hv 0 v rfl
   have := ih (i + 1) vals (acc.push v) (by simpa using hl) (fun k u hk => by have := hv (k + 1) u (by simpa using hk); rwa [show o + i + (k + 1) = o + (i + 1) + k by omega] at this)
   simp [loadCellsFrom, add_eq, h0, this]
theorem run_loadCells {P : Program} {w : World} {b o n : Nat} {vals : List Value} (hl : vals.length = n) (hv : ∀ k v, vals[k]? = some v -> w.cell? ⟨b, o + k, none⟩ = some v) :
  (loadCells ⟨b, o, none⟩ n).run P w = .ok vals.toArray w := by
 have := run_loadCellsFrom P w b o n 0 vals #[] hl (fun k v hk => by simpa using hv k v hk)
 simpa [loadCells] using this
theorem oI {P : Program} {w : World} {t : TypeId} {i : jj} {b o : Nat} {vals : List Value} (hi : i.OK P t) (hl : vals.length = i.size)
  (hv : ∀ k v, vals[k]? = some v -> w.cell? ⟨b, o + k, none⟩ = some v) (h1 : i.k.agg = true \/ i.size = 1) :
  (loadVar t ⟨b, o, none⟩).run P w = .ok (if i.k.agg then .agg vals.toArray else vals.headD undef) w := by
 unfold loadVar
 simp only [Sem.run_bind, BR hi, Result.andThen_ok]
 cases hk : i.k.agg with
 | true => simp [run_sizeOf hi, run_loadCells hl hv]
 | false =>
  rw [hk] at h1
  have h1 := h1.resolve_left (by simp)
  rw [h1] at hl
  match vals, hl with
  | [v], _ =>
   have := hv 0 v rfl
   simp only [Nat.add_zero] at this
   simp [this]
def Wv (p : Path) (i f : Nat) : C -> T1
 | .v u => .c (.v u)
 | .sl _ rows => .so p i f rows.length
 | .bx _ => .pl (p ++ [(i, f)]) 0 0
 | .fz c => .c c
 | .fn g caps => .c (.fn g caps)
 | .dead => .unk
theorem Ih {w : World} {S : Nat -> Prop} {γ : Path -> Option Loc} {p : Path} {i f : Nat} {c : C} {x : Value} (h : Hdr w S c (γ (p ++ [(i, f)])) x) : au w S γ (Wv p i f c) x := by
 cases c with
 | v u => obtain ⟨rfl, h⟩ := h; exact .v h
 | sl sz rows =>
  cases hl : γ (p ++ [(i, f)]) with
  | none => rw [hl] at h; obtain ⟨rfl, rfl⟩ := h; exact .inr ⟨hl, rfl, rfl⟩
  | some l => rw [hl] at h; exact .inl ⟨l, hl, h.1, h.2.1⟩
 | bx row =>
  cases hl : γ (p ++ [(i, f)]) with
  | none => rw [hl] at h; exact h.elim
  | some l => rw [hl] at h; exact ⟨l, hl, by rw [show x = .pointer (some ⟨l.b, l.off, none⟩) from h]; simp⟩
 | fz c => exact h
 | fn g caps => exact h
 | dead => trivial
def loadT (p : Path) (i : Nat) : Nat -> List C -> List T1
 | _, [] => []
 | f, c :: cs => Wv p i f c :: loadT p i (f + 1) cs
def yZ : C -> T1
 | .fz c => yZ c
 | .dead => .unk
 | c => .c c
theorem Fx {w : World} {S : Nat -> Prop} {γ : Path -> Option Loc} : ∀ {c : C} {x : Value}, gd w S c x -> au w S γ (yZ c) x
 | _, _, .v h => .v h
 | _, _, .nil => .nil
 | _, _, .sl a b c d e => .sl a b c d e
 | _, _, .bx a b c => .bx a b c
 | .fz c, _, .fz h => (Fx h : au w S γ (yZ c) _)
 | _, _, .dead _ => trivial
 | _, _, .fn h => .fn h
def XV (agg : Bool) (l : List T1) : Option TV :=
 if agg then some (.agg l) else match l with
  | [t] => some (.one t)
  | _ => none
def Zs (m : Rows) (p : Path) (i f n : Nat) : Option (List C) :=
 match ay m p with
 | none => none
 | some rows => match rows[i]? with
  | none => none
  | some row => if f + n <= row.length then some ((row.drop f).take n) else none
def Bz (m : Rows) (n : Nat) : T1 -> Option (List T1)
 | .pl p i f => if p.isEmpty then none else (Zs m p i f n).map (loadT p i f)
 | .fp row f => if f + n <= row.length then some (((row.drop f).take n).map yZ) else none
 | .c (.bx row) => if n <= row.length then some ((row.take n).map yZ) else none
 | _ => none
theorem BA (p : Path) (i : Nat) : ∀ (cs : List C) (f k : Nat), (loadT p i f cs)[k]? = (cs[k]?).map (Wv p i (f + k))
 | [], f, k => by simp [loadT]
 | c :: cs, f, 0 => by simp [loadT]
 | c :: cs, f, k + 1 => by simp [loadT, BA p i cs (f + 1) k]; congr 2; omega
theorem pZ (p : Path) (i : Nat) : ∀ (cs : List C) (f : Nat), (loadT p i f cs).length = cs.length
 | [], _ => rfl
 | _ :: cs, f => by simp [loadT, pZ p i cs (f + 1)]
theorem Ei {B : da} {S : Nat -> Prop} {γ : Path -> Option Loc} {st : St} {a : Act} {w : World} (hR : Rel B S γ st a w) {n : Nat} {t : T1} {x : Value} {l : List T1}
  (ht : au w S γ t x) (h : Bz st.m n t = some l) :
  ∃ b o vals, x = .pointer (some ⟨b, o, none⟩) /\ vals.length = n /\ (∀ k v, vals[k]? = some v -> w.cell? ⟨b, o + k, none⟩ = some v) /\ cK (au w S γ) l vals := by
 cases t with
 | pl p i f =>
  obtain ⟨lc, hl, rfl⟩ := ht
  by_cases hne : p = []
  ·subst hne; simp [Bz] at h
  have hne' : p.isEmpty = false := by cases p <;> simp_all
  simp only [Bz, Zs, hne', Bool.false_eq_true, if_false] at h
  cases hg : ay st.m p with
  | none => rw [hg] at h; cases h
  | some rows =>
   rw [hg] at h
   simp only [] at h
   cases hr : rows[i]? with
   | none => rw [hr] at h; cases h
   | some row =>
    rw [hr] at h
    simp only [] at h
    by_cases hfn : f + n <= row.length
    ·rw [if_pos hfn] at h
     simp only [Option.map_some, Option.some.injEq] at h
     subst h
     have hcell : ∀ k, k < n -> ∃ c v, ((row.drop f).take n)[k]? = some c /\ w.cell? ⟨lc.b, lc.off + i * lc.sz + f + k, none⟩ = some v /\ Hdr w S c (γ (p ++ [(i, f + k)])) v := by
      intro k hk
      have hlt : f + k < row.length := by omega
      obtain ⟨v, h1, h2⟩ := hR.mem.cell p rows lc i (f + k) row[f + k] hne hg hl (by simp [at2, hr, hlt])
      refine ⟨row[f + k], v, ?_, by rw [show lc.off + i * lc.sz + f + k = lc.off + i * lc.sz + (f + k) by omega]; exact h1, h2⟩
      rw [List.getElem?_take_of_lt hk, List.getElem?_drop, List.getElem?_eq_getElem hlt]
     have : ∃ vals : List Value, vals.length = n /\ ∀ k, k < n -> ∃ c v, ((row.drop f).take n)[k]? = some c /\ vals[k]? = some v /\ w.cell? ⟨lc.b, lc.off + i * lc.sz + f + k, none⟩ = some v /\ Hdr w S c (γ (p ++ [(i, f + k)])) v := by
      refine ⟨(List.range n).map fun k => (w.cell? ⟨lc.b, lc.off + i * lc.sz + f + k, none⟩).getD undef, by simp, fun k hk => ?_⟩
      obtain ⟨c, v, h1, h2, h3⟩ := hcell k hk
      exact ⟨c, v, h1, by simp [hk, h2], h2, h3⟩
     obtain ⟨vals, hlen, hvals⟩ := this
     refine ⟨_, _, vals, rfl, hlen, fun k v hk => ?_, by rw [pZ, hlen]; simp; omega, fun k t' v ht' hv => ?_⟩
     ·have hkn : k < n := by rw [<- hlen]; exact (List.getElem?_eq_some_iff.1 hk).1
      obtain ⟨c, v', _, h2, h3, _⟩ := hvals k hkn
      rw [hk] at h2; cases h2; exact h3
     ·have hkn : k < n := by rw [<- hlen]; exact (List.getElem?_eq_some_iff.1 hv).1
      obtain ⟨c, v', h1, h2, _, h4⟩ := hvals k hkn
      rw [hv] at h2; cases h2
      rw [BA, h1] at ht'
      cases ht'
      exact Ih h4
    ·rw [if_neg hfn] at h; cases h
 | fp row f =>
  obtain ⟨b, off, vs, h1, h2, h3, rfl⟩ := ht
  simp only [Bz] at h
  by_cases hfn : f + n <= row.length
  ·rw [if_pos hfn] at h
   cases h
   have hvl := h2.length
   refine ⟨b, off + f, (vs.drop f).take n, rfl, by simp; omega, fun k v hk => ?_, by simp; omega, fun k t' v ht' hv => ?_⟩
   ·have hkn : k < n := by have := (List.getElem?_eq_some_iff.1 hk).1; simp at this; omega
    rw [List.getElem?_take_of_lt hkn, List.getElem?_drop] at hk
    rw [Nat.add_assoc]
    exact h3 _ v hk
   ·have hkn : k < n := by have := (List.getElem?_eq_some_iff.1 hv).1; simp at this; omega
    rw [List.getElem?_take_of_lt hkn, List.getElem?_drop] at hv
    rw [List.getElem?_map, List.getElem?_take_of_lt hkn, List.getElem?_drop] at ht'
    cases hc : row[f + k]? with
    | none => rw [hc] at ht'; cases ht'
    | some c =>
     rw [hc] at ht'
     cases ht'
     obtain ⟨v', g1, g2⟩ := h2.get hc
     rw [hv] at g1
     cases g1
     exact Fx g2
  ·rw [if_neg hfn] at h; cases h
 | c c =>
  cases c with
  | bx row =>
   cases ht with
   | bx hb h2 h3 =>
    rename_i b off vs
    simp only [Bz] at h
    by_cases hfn : n <= row.length
    ·rw [if_pos hfn] at h
     cases h
     have hvl := h2.length
     refine ⟨b, off, vs.take n, rfl, by simp; omega, fun k v hk => ?_, by simp; omega, fun k t' v ht' hv => ?_⟩
     ·have hkn : k < n := by have := (List.getElem?_eq_some_iff.1 hk).1; simp at this; omega
      rw [List.getElem?_take_of_lt hkn] at hk
      exact h3 _ v hk
     ·have hkn : k < n := by have := (List.getElem?_eq_some_iff.1 hv).1; simp at this; omega
      rw [List.getElem?_take_of_lt hkn] at hv
      rw [List.getElem?_map, List.getElem?_take_of_lt hkn] at ht'
      cases hc : row[k]? with
      | none => rw [hc] at ht'; cases ht'
      | some c =>
       rw [hc] at ht'
       cases ht'
       obtain ⟨v', g1, g2⟩ := h2.get hc
       rw [hv] at g1
       cases g1
       exact Fx g2
    ·rw [if_neg hfn] at h; cases h
  | _ => simp [Bz] at h
 | _ => simp [Bz] at h
end Go.Mv
namespace Go.Mv
open Go.RowKit
def XG (op : BinOp) (k : IntKind) (a b : Int) : Option Value :=
 match op with
 | .add => some (.int k (k.wrap (a + b)))
 | .sub => some (.int k (k.wrap (a - b)))
 | .mul => some (.int k (k.wrap (a * b)))
 | .quo => if b = 0 then none else some (.int k (k.wrap (a.tdiv b)))
 | .rem => if b = 0 then none else some (.int k (a.tmod b))
 | .and => some (.int k (k.wrap (BitVec.ofInt k.bits a &&& BitVec.ofInt k.bits b).toNat))
 | .or => some (.int k (k.wrap (BitVec.ofInt k.bits a ||| BitVec.ofInt k.bits b).toNat))
 | .xor => some (.int k (k.wrap (BitVec.ofInt k.bits a ^^^ BitVec.ofInt k.bits b).toNat))
 | .eql => some (.bool (a == b))
 | .neq => some (.bool (a != b))
 | .lss => some (.bool (decide (a < b)))
 | .leq => some (.bool (decide (a <= b)))
 | .gtr => some (.bool (decide (a > b)))
 | .geq => some (.bool (decide (a >= b)))
 | _ => none
def Pc (op : BinOp) (k : IntKind) (a b : Int) : Option Value :=
 if b < 0 then none else match op with
 | .shl => some (.int k (k.wrap (a * 2 ^ (min b.toNat k.bits))))
 | .shr => some (.int k (a.fdiv (2 ^ (min b.toNat k.bits))))
 | _ => none
def YM (op : BinOp) (a b : ByteArray) : Option Value :=
 match op with
 | .add => if a.size + b.size <= 140737488355328 then some (.string (a ++ b)) else none
 | .eql => some (.bool (a.toList == b.toList))
 | .neq => some (.bool (!(a.toList == b.toList)))
 | .lss => some (.bool (Op.bytesLess a.toList b.toList))
 | .leq => some (.bool (Op.bytesLess a.toList b.toList || a.toList == b.toList))
 | .gtr => some (.bool (!(Op.bytesLess a.toList b.toList || a.toList == b.toList)))
 | .geq => some (.bool (!Op.bytesLess a.toList b.toList))
 | _ => none
def Zf (op : BinOp) (a b : Bool) : Option Value :=
 match op with
 | .eql => some (.bool (a == b))
 | .neq => some (.bool (!(a == b)))
 | _ => none
def Yt : BinOp -> Bool
 | .shl => true
 | .shr => true
 | _ => false
def TX (tk : TK) (op : BinOp) : Value -> Value -> Option Value
 | .int k a, .int k' b => if Yt op then Pc op k a b else if k = k' then XG op k a b else none
 | .string a, .string b => YM op a b
 | .bool a, .bool b => match tk with
  | .bool => Zf op a b
  | _ => none
 | _, _ => none
theorem Um {P : Program} {w : World} {t : TypeId} {op : BinOp} {k : IntKind} {a b : Int} {v : Value} (h : XG op k a b = some v) :
  (binOp op t (.int k a) (.int k b)).run P w = .ok v w := by
 cases op <;> simp only [XG, Option.some.injEq, reduceCtorEq] at h
 case quo => split at h <;> first | (cases h; done) | (rename_i hb; cases h; simp [binOp, Op.intDiv, hb])
 case rem => split at h <;> first | (cases h; done) | (rename_i hb; cases h; simp [binOp, Op.intDiv, hb])
 all_goals (subst h; simp [binOp, Op.intArith, Op.intCmp, Op.intBits])
theorem Rl {P : Program} {w : World} {t : TypeId} {op : BinOp} {k k' : IntKind} {a b : Int} {v : Value} (h : Pc op k a b = some v) :
  (binOp op t (.int k a) (.int k' b)).run P w = .ok v w := by
 unfold Pc at h
 split at h
 ·cases h
 ·rename_i hb
  cases op <;> simp only [Option.some.injEq, reduceCtorEq] at h
  all_goals (subst h; simp [binOp, Op.shift, hb])
theorem Uo {P : Program} {w : World} {t : TypeId} {i : jj} (hi : i.OK P t) {op : BinOp} {x y : Operand} {a b v : Value} (h : TX i.k op a b = some v) :
  (do eqGuard op t x y a b; binOp op t a b : Sem Value).run P w = .ok v w := by
 unfold TX at h
 split at h
 ·rename_i k a k' b
  have hg : (eqGuard op t x y (.int k a) (.int k' b)).run P w = .ok () w := by
   unfold eqGuard
   split <;> simp
  simp only [Sem.run_bind, hg, Result.andThen_ok]
  split at h
  ·exact Rl h
  ·split at h
   ·rename_i hk
    subst hk
    exact Um h
   ·cases h
 ·rename_i a b
  have hg : (eqGuard op t x y (.string a) (.string b)).run P w = .ok () w := by
   unfold eqGuard
   split <;> simp
  simp only [Sem.run_bind, hg, Result.andThen_ok]
  cases op <;> simp [YM] at h <;> first
   | (subst h; simp [binOp, Op.stringOp]; done)
   | skip
  obtain ⟨hb, rfl⟩ := h
  have hm : IntKind.i64.max = 9223372036854775807 := by decide
  have hc : ¬ (((a.size + b.size : Nat) : Int) > IntKind.i64.max) := by rw [hm]; omega
  simp only [binOp, Op.stringOp, if_neg hc, Sem.run_pure]
 ·rename_i a b
  split at h
  ·rename_i hk
   have hg : (eqGuard op t x y (.bool a) (.bool b)).run P w = .ok () w := by
    unfold eqGuard
    split <;> simp
   simp only [Sem.run_bind, hg, Result.andThen_ok]
   have hu : P.underlying t = some .bool := by have := hi.1; rw [hk] at this; exact this
   cases op <;> simp [Zf] at h <;> first
    | (subst h; simp [binOp, Op.equal, Op.maxDepth, run_equalIn_bool' w 9999 t a b hu]; done)
    | skip
  ·cases h
 ·cases h
end Go.Mv
namespace Go.Mv
open Go.RowKit
def bD (s : ByteArray) (n : Int) : Int := if h : n.toNat < s.size then ((s[n.toNat]'h).toNat : Int) else 0
def Xm (b : Bool) (x y : TV) : TV :=
 match x, y with
 | .one (.c (.v (.bool u))), .one (.c (.v (.bool v))) => .one (.c (.v (.bool (bif b then u else v))))
 | x, y => if b then x else y
def qg : List T1 -> Option (List Value)
 | [] => some []
 | .c (.v u) :: l => (qg l).map (u :: ·)
 | _ => none
def VI (i : jj) (op : BinOp) : TV -> TV -> Option TV
 | .one (.c (.v a)), .one (.c (.v b)) => (TX i.k op a b).map fun v => .one (.c (.v v))
 | .agg as, .agg bs =>
  match i.eqs with
  | some ks => match qg as, qg bs with
   | some xs, some ys => match Pq ks xs ys with
    | some r => match op with
     | .eql => some (.one (.c (.v (.bool r))))
     | .neq => some (.one (.c (.v (.bool (!r)))))
     | _ => none
    | none => none
   | _, _ => none
  | none => none
 | _, _ => none
def fieldAt (off : Nat) : TV -> Option TV
 | .one (.pl p i g) => some (.one (.pl p i (g + off)))
 | .one (.fp row g) => some (.one (.fp row (g + off)))
 | .one (.c (.bx row)) => some (.one (.fp row off))
 | _ => none
def Xk (i : jj) (off : Nat) : TV -> Option TV
 | .agg l => if i.k.agg then some (.agg ((l.drop off).take i.size)) else (l[off]?).map .one
 | _ => none
def GN (m : Rows) (p : Path) (n size : Nat) : Bool :=
 match ay m p with
 | none => false
 | some rows => match rows[n]? with
  | none => false
  | some row => row.length == size
def indexAt (m : Rows) (size : Nat) (n : Int) : TV -> Option TV
 | .one (.so q i f n0) => if 0 <= n /\ n < n0 /\ GN m (q ++ [(i, f)]) n.toNat size = true then some (.one (.pl (q ++ [(i, f)]) n.toNat 0)) else none
 | .one (.sp p lo n0) => if 0 <= n /\ n < n0 /\ p.isEmpty = false /\ GN m p (lo + n.toNat) size = true then some (.one (.pl p (lo + n.toNat) 0)) else none
 | .one (.c (.sl _ rows)) => if 0 <= n /\ n < rows.length then (match rows[n.toNat]? with
   | some row => if row.length = size then some (.one (.fp row 0)) else none
   | none => none) else none
 | _ => none
def YU : TV -> Option Int
 | .one (.so _ _ _ n) => some n
 | .one (.sp _ _ n) => some n
 | .one (.c (.sl _ rows)) => some rows.length
 | .one (.c (.v (.slice none 0 0))) => some 0
 | _ => none
def t2V : T2 -> TV
 | .one t => .one t
 | .agg l => .agg l
def WS : TV -> Bool
 | .one (.pl _ _ _) => true
 | .one (.fp _ _) => true
 | .one (.c (.bx _)) => true
 | _ => false
section
variable {P : Program} {B : da} {S : Nat -> Prop} {γ : Path -> Option Loc} {st : St} {a : Act} {w : World}
theorem SP {b : Bool} {x y : TV} {u v : Value} (hx : aD w S γ x u) (hy : aD w S γ y v) : aD w S γ (Xm b x y) (if b then u else v) := by
 unfold Xm
 split
 ·rename_i c d
  cases hx with
  | v _ =>
   cases hy with
   | v _ => cases b <;> exact .v rfl
 ·cases b
  ·simpa using hy
  ·simpa using hx
theorem BJ : ∀ {l : List T1} {xs vs : List Value}, qg l = some vs -> cK (au w S γ) l xs -> xs = vs := by
 intro l
 induction l with
 | nil => intro xs vs h hl; cases h; have := hl.1; exact List.eq_nil_of_length_eq_zero (by simpa using this.symm)
 | cons t l ih =>
  intro xs vs h hl
  obtain ⟨x, xs', rfl, h1, h2⟩ := hl.dQ
  cases t with
  | c c =>
   cases c with
   | v u =>
    simp only [qg] at h
    cases hp : qg l with
    | none => rw [hp] at h; cases h
    | some r =>
     rw [hp] at h
     cases h
     cases h1 with
     | v _ => rw [ih hp h2]
   | _ => simp [qg] at h
  | _ => simp [qg] at h
theorem jC {u x : Value} (h : aD w S γ (.one (.c (.v u))) x) : x = u := by
 cases h with
 | v _ => rfl
theorem Un {t : TypeId} {i : jj} (hi : i.OK P t) {op : BinOp} {x y : Operand} {u v : Value} {tx ty tv : TV} (hx : aD w S γ tx u) (hy : aD w S γ ty v) (h : VI i op tx ty = some tv) :
  ∃ r, (∀ w', (do eqGuard op t x y u v; binOp op t u v : Sem Value).run P w' = .ok r w') /\ aD w S γ tv r := by
 unfold VI at h
 split at h
 ·rename_i c d
  have hx1 := jC hx
  have hy1 := jC hy
  subst hx1 hy1
  cases hb : TX i.k op u v with
  | none => rw [hb] at h; cases h
  | some r =>
   rw [hb] at h
   cases h
   refine ⟨r, fun w' => Uo hi hb, .v ?_⟩
   unfold TX at hb
   split at hb
   ·split at hb
    ·unfold Pc at hb
     split at hb
     ·cases hb
     ·cases op <;> simp at hb <;> (subst hb; rfl)
    ·split at hb
     ·unfold XG at hb
      cases op <;> simp at hb <;> first | (subst hb; rfl) | (obtain ⟨_, rfl⟩ := hb; rfl)
     ·cases hb
   ·cases op <;> simp [YM] at hb <;> first | (subst hb; rfl) | (obtain ⟨_, rfl⟩ := hb; rfl)
   ·split at hb
    ·cases op <;> simp [Zf] at hb <;> (subst hb; rfl)
    ·cases hb
   ·cases hb
 ·rename_i as bs
  obtain ⟨xs, rfl, hxs⟩ := hx
  obtain ⟨ys, rfl, hys⟩ := hy
  split at h
  ·rename_i ks he
   split at h
   ·rename_i xs' ys' h1 h2
    have hx1 := BJ h1 hxs
    have hy1 := BJ h2 hys
    subst hx1 hy1
    split at h
    ·rename_i r hr
     obtain ⟨hg, heq⟩ := hi.2.2 ks he
     have hgr : ∀ w', (eqGuard op t x y (.agg xs.toArray) (.agg ys.toArray)).run P w' = .ok () w' := fun w' => run_eqGuard_agg w' op t x y _ _ hg
     simp only [Sem.run_bind, hgr, Result.andThen_ok]
     split at h
     ·cases h
      exact ⟨.bool r, fun w' => by simp [binOp, heq w' _ _ _ hr], .v rfl⟩
     ·cases h
      exact ⟨.bool (!r), fun w' => by simp [binOp, heq w' _ _ _ hr], .v rfl⟩
     ·cases h
    ·cases h
   ·cases h
  ·cases h
 ·cases h
theorem Aq {s : TypeId} {i fi : jj} (hi : i.OK P s) {fs : List (Nat × TypeId)} (hk : i.k = .struct fs) {f off ft : Nat} (hf : fs[f]? = some (off, ft)) (hfi : fi.OK P ft) (hz : fi.size ≠ 0)
  {t : TV} {x : Value} (ht : aD w S γ t x) {tv : TV} (h : fieldAt off t = some tv) : ∃ v, (∀ w', (Instr.fieldAt s x f).run P w' = .ok v w') /\ aD w S γ tv v := by
 have hu := hi.1
 rw [hk] at hu
 obtain ⟨fields, hu, hfs⟩ := hu
 have hfield : ∃ fd, fields[f]? = some fd /\ fd.offset = off /\ fd.type = ft := by
  rw [<- hfs] at hf
  rw [List.getElem?_map] at hf
  cases hg : fields.toList[f]? with
  | none => rw [hg] at hf; cases hf
  | some fd => rw [hg] at hf; cases hf; exact ⟨fd, by simpa using hg, rfl, rfl⟩
 obtain ⟨fd, hfd, rfl, rfl⟩ := hfield
 have hrun : ∀ b o, x = .pointer (some ⟨b, o, none⟩) -> ∀ w', (Instr.fieldAt s x f).run P w' = .ok (.pointer (some ⟨b, o + fd.offset, none⟩)) w' := by
  intro b o hx w'
  subst hx
  simp [Instr.fieldAt, run_underlying hu, hfd, Instr.sureAddr, fieldPlace, run_sizeOf hfi, hz, add_eq]
 unfold fieldAt at h
 split at h
 ·cases h
  obtain ⟨l, hl, rfl⟩ := ht
  exact ⟨_, hrun _ _ rfl, l, hl, by rw [Nat.add_assoc]⟩
 ·cases h
  obtain ⟨b, off, vals, h1, h2, h3, rfl⟩ := ht
  exact ⟨_, hrun _ _ rfl, b, off, vals, h1, h2, h3, by rw [Nat.add_assoc]⟩
 ·cases h
  cases ht with
  | bx h1 h2 h3 => exact ⟨_, hrun _ _ rfl, _, _, _, h1, h2, h3, rfl⟩
 ·cases h
theorem cK.drop_take {l : List T1} {xs : List Value} (h : cK (au w S γ) l xs) (o n : Nat) : cK (au w S γ) ((l.drop o).take n) ((xs.drop o).take n) :=
 ⟨by simp [h.1], fun k t v ht hv => by
  by_cases hk : k < n
  ·rw [List.getElem?_take_of_lt hk, List.getElem?_drop] at ht hv
   exact h.2 _ t v ht hv
  ·rw [List.getElem?_eq_none (by simp; omega)] at ht; cases ht⟩
theorem SN {s : TypeId} {i fi : jj} (hi : i.OK P s) {fs : List (Nat × TypeId)} (hk : i.k = .struct fs) {f off ft : Nat} (hf : fs[f]? = some (off, ft)) (hfi : fi.OK P ft)
  {t : TV} {x : Value} (ht : aD w S γ t x) {tv : TV} (h : Xk fi off t = some tv) : ∃ v, (∀ w', (Instr.field s x f).run P w' = .ok v w') /\ aD w S γ tv v := by
 have hu := hi.1
 rw [hk] at hu
 obtain ⟨fields, hu, hfs⟩ := hu
 have hfield : ∃ fd, fields[f]? = some fd /\ fd.offset = off /\ fd.type = ft := by
  rw [<- hfs] at hf
  rw [List.getElem?_map] at hf
  cases hg : fields.toList[f]? with
  | none => rw [hg] at hf; cases hf
  | some fd => rw [hg] at hf; cases hf; exact ⟨fd, by simpa using hg, rfl, rfl⟩
 obtain ⟨fd, hfd, rfl, rfl⟩ := hfield
 unfold Xk at h
 split at h
 ·rename_i l
  obtain ⟨xs, rfl, hxs⟩ := ht
  split at h
  ·rename_i hagg
   cases h
   refine ⟨.agg (((xs.drop fd.offset).take fi.size).toArray), fun w' => by simp [Instr.field, run_underlying hu, hfd, asAgg, part, BR hfi, hagg, run_sizeOf hfi], (xs.drop fd.offset).take fi.size, ?_, hxs.drop_take _ _⟩
   simp
  ·rename_i hagg
   cases hg : l[fd.offset]? with
   | none => rw [hg] at h; cases h
   | some t =>
    rw [hg] at h
    cases h
    obtain ⟨v, h1, h2⟩ := hxs.get hg
    exact ⟨v, fun w' => by simp [Instr.field, run_underlying hu, hfd, asAgg, part, BR hfi, hagg, h1], h2⟩
 ·cases h
theorem Qt {m : Rows} {p : Path} {n size : Nat} (h : GN m p n size = true) : ∃ rows row, ay m p = some rows /\ rows[n]? = some row /\ row.length = size := by
 unfold GN at h
 split at h
 ·cases h
 ·rename_i rows hr
  split at h
  ·cases h
  ·rename_i row hrow
   exact ⟨rows, row, hr, hrow, by simpa using h⟩
theorem Rel.OE (hR : Rel B S γ st a w) {p : Path} {n size : Nat} (hp : p ≠ []) (h : GN st.m p n size = true) {l : Loc} (hl : γ p = some l) : l.sz = size := by
 obtain ⟨rows, row, h1, h2, h3⟩ := Qt h
 have := hR.mem.loc p rows hp h1
 rw [hl] at this
 rw [<- this.2.2.1 row (List.mem_of_getElem? h2), h3]
theorem Gt (row : List C) (rows : Rows) (sz : Nat) (hs : ∀ r ∈ rows, r.length = sz) : ∀ (n : Nat), rows[n]? = some row -> ∀ k, k < sz -> rows.flatten[n * sz + k]? = row[k]? := by
 induction rows with
 | nil => intro n h; simp at h
 | cons r rows ih =>
  intro n h k hk
  have hr : r.length = sz := hs r (by simp)
  cases n with
  | zero =>
   simp at h
   subst h
   simp only [List.flatten_cons, Nat.zero_mul, Nat.zero_add]
   rw [List.getElem?_append_left (by omega)]
  | succ n =>
   simp only [List.flatten_cons]
   rw [List.getElem?_append_right (by rw [hr, Nat.succ_mul]; omega)]
   rw [show (n + 1) * sz + k - r.length = n * sz + k by rw [hr, Nat.succ_mul]; omega]
   exact ih (fun r' hr' => hs r' (by simp [hr'])) n (by simpa using h) k hk
theorem bG.row {rows : Rows} {vals : List Value} (h : bG w S rows.flatten vals) {sz : Nat} (hs : ∀ r ∈ rows, r.length = sz) {n : Nat} {row : List C} (hr : rows[n]? = some row) :
  bG w S row ((vals.drop (n * sz)).take sz) := by
 have hlen : row.length = sz := hs row (List.mem_of_getElem? hr)
 have key : ∀ k, k < sz -> ∃ x, vals[n * sz + k]? = some x /\ ∃ c, row[k]? = some c /\ gd w S c x := by
  intro k hk
  have hc : row[k]? = some row[k] := List.getElem?_eq_getElem (by omega)
  obtain ⟨x, h1, h2⟩ := h.get (k := n * sz + k) (by rw [Gt row rows sz hs n hr k hk]; exact hc)
  exact ⟨x, h1, _, hc, h2⟩
 have gen : ∀ (row : List C) (vs : List Value), row.length = vs.length -> (∀ (k : Nat) (c : C) (x : Value), row[k]? = some c -> vs[k]? = some x -> gd w S c x) -> bG w S row vs := by
  intro row
  induction row with
  | nil => intro vs hl _; have := List.eq_nil_of_length_eq_zero hl.symm; subst this; exact .nil
  | cons c row ih =>
   intro vs hl hk
   cases vs with
   | nil => simp at hl
   | cons x vs => exact .cons (hk 0 c x rfl rfl) (ih vs (by simpa using hl) fun k c' x' hc hx => hk (k + 1) c' x' (by simpa using hc) (by simpa using hx))
 refine gen row _ ?_ fun k c x hc hx => ?_
 ·rw [hlen]
  cases Nat.eq_zero_or_pos sz with
  | inl h0 => simp [h0]
  | inr h0 =>
   obtain ⟨x, h1, _⟩ := key (sz - 1) (by omega)
   have := (List.getElem?_eq_some_iff.1 h1).1
   simp
   omega
 ·have hk : k < sz := by rw [<- hlen]; exact (List.getElem?_eq_some_iff.1 hc).1
  obtain ⟨x', h1, c', h2, h3⟩ := key k hk
  rw [hc] at h2; cases h2
  rw [List.getElem?_take_of_lt hk, List.getElem?_drop, h1] at hx
  cases hx
  exact h3
theorem LC (hR : Rel B S γ st a w) {t e : TypeId} {i ei : jj} (hi : i.OK P t) (hk : i.k = .slice e) (he : ei.OK P e) {k : IntKind} {n : Int} {tx tv : TV} {x : Value} (hx : aD w S γ tx x)
  (h : indexAt st.m ei.size n tx = some tv) : ∃ v, (∀ w', (Instr.indexAt t x (.int k n)).run P w' = .ok v w') /\ aD w S γ tv v := by
 have hu : P.underlying t = some (.slice e) := by have := hi.1; rw [hk] at this; exact this
 have hrun : ∀ b o len cap, x = .slice (some ⟨b, o, none⟩) len cap -> 0 <= n -> n < len -> ∀ w', (Instr.indexAt t x (.int k n)).run P w' = .ok (.pointer (some ⟨b, o + n.toNat * ei.size, none⟩)) w' := by
  intro b o len cap hx h0 h1 w'
  subst hx
  simp [Instr.indexAt, asIntOf, run_underlying hu, h0, h1, run_sizeOf he, add_eq]
 unfold indexAt at h
 split at h
 ·rename_i q i' f n0
  split at h
  ·rename_i hc
   obtain ⟨h0, h1, h2⟩ := hc
   cases h
   rcases hx with ⟨l, hl, rfl, _⟩ | ⟨_, rfl, rfl⟩
   ·exact ⟨_, hrun _ _ _ _ rfl h0 h1, l, hl, by rw [hR.OE (by simp) h2 hl]; rfl⟩
   ·simp at h1; omega
  ·cases h
 ·rename_i p lo n0
  split at h
  ·rename_i hc
   obtain ⟨h0, h1, hp, h2⟩ := hc
   cases h
   rcases hx with ⟨l, cap, hl, rfl, hcap⟩ | ⟨rfl, _⟩
   ·have := hR.OE (by rintro rfl; simp at hp) h2 hl
    exact ⟨_, hrun _ _ _ _ rfl h0 h1, l, hl, by rw [this, Nat.add_mul]; congr 3; omega⟩
   ·simp at h1; omega
  ·cases h
 ·rename_i sz0 rows
  split at h
  ·rename_i hc
   obtain ⟨h0, h1⟩ := hc
   split at h
   ·rename_i row hrow
    split at h
    ·rename_i hlen
     cases h
     cases hx with
     | nil => simp at h1; omega
     | sl hb hs hv hcell hcap =>
      rename_i b off cap vals
      have hsz : sz0 = ei.size := by rw [<- hs row (List.mem_of_getElem? hrow)]; exact hlen
      refine ⟨_, hrun _ _ _ _ rfl h0 h1, b, off + n.toNat * ei.size, (vals.drop (n.toNat * sz0)).take sz0, hb, hv.row hs hrow, fun k v hkv => ?_, by rw [Nat.add_zero]⟩
      have hk : k < sz0 := by have := (List.getElem?_eq_some_iff.1 hkv).1; simp at this; omega
      rw [List.getElem?_take_of_lt hk, List.getElem?_drop] at hkv
      rw [Nat.add_assoc, <- hsz]
      exact hcell _ v hkv
    ·cases h
   ·cases h
  ·cases h
 ·cases h
end
end Go.Mv
namespace Go.Mv
open Go.RowKit
def KQ : TV -> Option Int
 | .one (.c (.v (.int _ n))) => some n
 | _ => none
def HP (d : Int) : Option TV -> Option Int
 | none => some d
 | some t => KQ t
def yJ (m : Rows) (size : Nat) (lo hi : Option TV) : TV -> Option TV
 | .one (.c (.v (.string s))) =>
  match HP 0 lo, HP s.size hi with
  | some l, some h => if 0 <= l /\ l <= h /\ h <= s.size then some (.one (.c (.v (.string (s.extract l.toNat h.toNat))))) else none
  | _, _ => none
 | .one (.c (.sl sz rows)) =>
  match HP 0 lo, HP rows.length hi with
  | some l, some h => if 0 <= l /\ l <= h /\ h <= rows.length /\ rows.all (fun r => r.length == size) = true then some (.one (.c (.sl sz ((rows.take h.toNat).drop l.toNat)))) else none
  | _, _ => none
 | .one (.so q i f n) =>
  match HP 0 lo, HP n hi with
  | some l, some h => if 0 <= l /\ l <= h /\ h <= n /\ (h <= l \/ GN m (q ++ [(i, f)]) l.toNat size = true) then some (.one (.sp (q ++ [(i, f)]) l.toNat (h - l).toNat)) else none
  | _, _ => none
 | .one (.sp p lo0 n) =>
  match HP 0 lo, HP n hi with
  | some l, some h => if 0 <= l /\ l <= h /\ h <= n /\ p.isEmpty = false /\ (h <= l \/ GN m p (lo0 + l.toNat) size = true) then some (.one (.sp p (lo0 + l.toNat) (h - l).toNat)) else none
  | _, _ => none
 | _ => none
section
variable {P : Program} {B : da} {S : Nat -> Prop} {γ : Path -> Option Loc} {st : St} {a : Act} {w : World}
theorem iT {t : TV} {n : Int} {x : Value} (h : KQ t = some n) (ht : aD w S γ t x) : ∃ k, x = .int k n := by
 unfold KQ at h
 split at h
 ·cases h
  exact ⟨_, jC ht⟩
 ·cases h
def sr (w : World) (S : Nat -> Prop) (γ : Path -> Option Loc) : Option TV -> Option Value -> Prop
 | none, none => True
 | some t, some x => aD w S γ t x
 | _, _ => False
theorem run_sliceBound {k : IntKind} {i : Int} {y : Nat} {code : BoundsCode} (h0 : 0 <= i) (h1 : i <= y) : (Instr.sliceBound (.int k i) y code).run P w = .ok i.toNat w := by
 simp only [Instr.sliceBound, asIntOf, pure_bind, if_pos (And.intro h0 h1), Sem.run_pure]
theorem wU {isSlice : Bool} {len cap : Nat} {lo hi : Option TV} {lv hv : Option Value} {l h : Int} (h1 : HP 0 lo = some l) (h2 : HP len hi = some h) (hlo : sr w S γ lo lv) (hhi : sr w S γ hi hv)
  (h0 : 0 <= l) (hle : l <= h) (hc : h <= cap) (w' : World) : (Instr.sliceBounds isSlice len cap lv hv none).run P w' = .ok (l.toNat, h.toNat, cap) w' := by
 have hl : l <= (h.toNat : Int) := by omega
 have hh : 0 <= h := by omega
 cases lo with
 | none =>
  cases lv with
  | some _ => exact hlo.elim
  | none =>
   cases h1
   cases hi with
   | none =>
    cases hv with
    | some _ => exact hhi.elim
    | none =>
     cases h2
     simp [Instr.sliceBounds]
   | some t =>
    cases hv with
    | none => exact hhi.elim
    | some x =>
     obtain ⟨k, rfl⟩ := iT h2 hhi
     simp only [Instr.sliceBounds, pure_bind, Sem.run_bind, run_sliceBound hh hc, Result.andThen_ok, Sem.run_pure]
     rfl
 | some t' =>
  cases lv with
  | none => exact hlo.elim
  | some x' =>
   obtain ⟨k', rfl⟩ := iT h1 hlo
   cases hi with
   | none =>
    cases hv with
    | some _ => exact hhi.elim
    | none =>
     cases h2
     simp only [Instr.sliceBounds, pure_bind, Sem.run_bind, run_sliceBound h0 hle, Result.andThen_ok, Sem.run_pure, Int.toNat_natCast]
   | some t =>
    cases hv with
    | none => exact hhi.elim
    | some x =>
     obtain ⟨k, rfl⟩ := iT h2 hhi
     simp only [Instr.sliceBounds, pure_bind, Sem.run_bind, run_sliceBound hh hc, run_sliceBound h0 hl, Result.andThen_ok, Sem.run_pure]
theorem Iz {rows : Rows} {sz : Nat} (hs : ∀ r ∈ rows, r.length = sz) : ∀ (n : Nat), n <= rows.length -> (rows.drop n).flatten = rows.flatten.drop (n * sz) := by
 induction rows with
 | nil => intro n hn; simp at hn; subst hn; simp
 | cons r rows ih =>
  intro n hn
  cases n with
  | zero => simp
  | succ n =>
   have hr : r.length = sz := hs r (by simp)
   simp only [List.drop_succ_cons, List.flatten_cons]
   have e : r.drop ((n + 1) * sz) = [] := List.drop_eq_nil_of_le (by rw [hr, Nat.succ_mul]; exact Nat.le_add_left _ _)
   rw [ih (fun r' h' => hs r' (by simp [h'])) n (by simpa using hn), List.drop_append, e, List.nil_append, hr, Nat.succ_mul, Nat.add_sub_cancel]
theorem dK {rows : Rows} {sz : Nat} (hs : ∀ r ∈ rows, r.length = sz) : rows.flatten.length = rows.length * sz := by
 induction rows with
 | nil => simp
 | cons r rows ih => simp [ih (fun r' h' => hs r' (by simp [h'])), hs r (by simp), Nat.succ_mul]; omega
theorem IA {rows : Rows} {sz : Nat} (hs : ∀ r ∈ rows, r.length = sz) (n : Nat) (hn : n <= rows.length) : (rows.take n).flatten = rows.flatten.take (n * sz) := by
 have h1 : rows.flatten = (rows.take n).flatten ++ (rows.drop n).flatten := by rw [<- List.flatten_append, List.take_append_drop]
 have h2 : (rows.take n).flatten.length = n * sz := by
  rw [dK (fun r hr => hs r (List.mem_of_mem_take hr))]
  simp [Nat.min_eq_left hn]
 rw [h1, List.take_append_of_le_length (Nat.le_of_eq h2.symm), List.take_of_length_le (Nat.le_of_eq h2)]
theorem bG.take : ∀ {cs : List C} {xs : List Value} (n : Nat), bG w S cs xs -> bG w S (cs.take n) (xs.take n)
 | _, _, 0, _ => by simp; exact .nil
 | _, _, _ + 1, .nil => by simp; exact .nil
 | _, _, n + 1, .cons h t => by simp; exact .cons h (bG.take n t)
theorem bG.drop : ∀ {cs : List C} {xs : List Value} (n : Nat), bG w S cs xs -> bG w S (cs.drop n) (xs.drop n)
 | _, _, 0, h => by simpa using h
 | _, _, _ + 1, .nil => by simp; exact .nil
 | _, _, n + 1, .cons _ t => by simp; exact bG.drop n t
theorem ED (hR : Rel B S γ st a w) {t e : TypeId} {i ei : jj} (hi : i.OK P t) (hk : i.k = .string \/ i.k = .slice e /\ ei.OK P e) {size : Nat} (hsz : i.k = .string \/ size = ei.size)
  {lo hi' : Option TV} {lv hv : Option Value} (hlo : sr w S γ lo lv) (hhi : sr w S γ hi' hv) {tx tv : TV} {x : Value} (hx : aD w S γ tx x)
  (hks : i.k = .string ↔ ∃ s, tx = .one (.c (.v (.string s)))) (h : yJ st.m size lo hi' tx = some tv) : ∃ v, (∀ w', (Instr.sliceAt t x lv hv none).run P w' = .ok v w') /\ aD w S γ tv v := by
 by_cases hstr : i.k = .string
 ·obtain ⟨s, rfl⟩ := hks.1 hstr
  have hu : P.underlying t = some .string := by have := hi.1; rw [hstr] at this; exact this
  cases jC hx
  unfold yJ at h
  simp only [] at h
  split at h
  ·rename_i l h' h1 h2
   split at h
   ·rename_i hc
    cases h
    obtain ⟨c1, c2, c3⟩ := hc
    exact ⟨_, fun w' => by simp [Instr.sliceAt, Instr.slice, run_underlying hu, wU (cap := s.size) h1 h2 hlo hhi c1 c2 c3 w'], .v rfl⟩
   ·cases h
  ·cases h
 ·obtain ⟨hke, hei⟩ := hk.resolve_left hstr
  have hsz := hsz.resolve_left hstr
  have hu : P.underlying t = some (.slice e) := by have := hi.1; rw [hke] at this; exact this
  have hrun : ∀ {A : Option Addr} {len cap : Nat} {l h : Int}, x = .slice A len cap -> HP 0 lo = some l -> HP len hi' = some h -> 0 <= l -> l <= h -> h <= cap ->
    ∀ w', (Instr.sliceAt t x lv hv none).run P w' = .ok (.slice (if cap = l.toNat then A else A.map (·.add (l.toNat * ei.size))) (h.toNat - l.toNat) (cap - l.toNat)) w' := by
   intro A len cap l h hx h1 h2 c1 c2 c3 w'
   subst hx
   simp [Instr.sliceAt, Instr.slice, run_underlying hu, wU (cap := cap) h1 h2 hlo hhi c1 c2 c3 w', run_sizeOf hei]
  unfold yJ at h
  split at h
  ·exact absurd (hks.2 ⟨_, rfl⟩) hstr
  ·rename_i sz rows
   split at h
   ·rename_i l h' h1 h2
    split at h
    ·rename_i hc
     obtain ⟨c1, c2, c3, c4⟩ := hc
     cases h
     have hall : ∀ r ∈ rows, r.length = size := fun r hr => by simpa using List.all_eq_true.1 c4 r hr
     cases hx with
     | nil =>
      rename_i A cap
      refine ⟨_, hrun rfl h1 h2 c1 c2 (by simp at c3; omega), ?_⟩
      have : h'.toNat - l.toNat = 0 := by simp at c3; omega
      rw [this]
      simp
      exact .nil
     | sl hb hs hv' hcell hcap =>
      rename_i b off cap vals
      refine ⟨_, hrun rfl h1 h2 c1 c2 (by omega), ?_⟩
      by_cases he : h' = l
      ·have h0 : h'.toNat - l.toNat = 0 := by omega
       have h0' : (rows.take h'.toNat).drop l.toNat = [] := by rw [he]; exact List.drop_eq_nil_of_le (by simp; omega)
       rw [h0, h0']
       exact .nil
      ·have hlt : l < h' := by omega
       have hne : cap ≠ l.toNat := by omega
       have hrow : rows[l.toNat]? = some rows[l.toNat] := List.getElem?_eq_getElem (by omega)
       have hsz' : sz = ei.size := by
        rw [<- hs _ (List.mem_of_getElem? hrow), hall _ (List.mem_of_getElem? hrow), hsz]
       rw [if_neg hne]
       have hlen : ((rows.take h'.toNat).drop l.toNat).length = h'.toNat - l.toNat := by simp; omega
       rw [<- hlen]
       simp only [Option.map_some, add_eq]
       refine gd.sl (sz := sz) (vals := (vals.take (h'.toNat * sz)).drop (l.toNat * sz)) hb (fun r hr => hs r (List.mem_of_mem_take (List.mem_of_mem_drop hr))) ?_ (fun k v hk => ?_) (by simp; omega)
       ·rw [Iz (fun r hr => hs r (List.mem_of_mem_take hr)) _ (by simp; omega), IA hs _ (by omega)]
        exact (hv'.take _).drop _
       ·rw [List.getElem?_drop] at hk
        have hlt2 : l.toNat * sz + k < h'.toNat * sz := by have := (List.getElem?_eq_some_iff.1 hk).1; simp at this; omega
        rw [List.getElem?_take_of_lt hlt2] at hk
        rw [Nat.add_assoc, <- hsz']
        exact hcell _ v hk
    ·cases h
   ·cases h
  ·rename_i q i' f n
   split at h
   ·rename_i l h' h1 h2
    split at h
    ·rename_i hc
     obtain ⟨c1, c2, c3, c4⟩ := hc
     cases h
     rcases hx with ⟨lc, hl, rfl, hcap⟩ | ⟨_, rfl, rfl⟩
     ·refine ⟨_, hrun rfl h1 h2 c1 c2 (by omega), ?_⟩
      rcases c4 with c4 | c4
      ·have h0 : h'.toNat - l.toNat = 0 := by omega
       have h0' : (h' - l).toNat = 0 := by omega
       rw [h0, h0']
       exact .inr ⟨rfl, _, _, rfl⟩
      ·by_cases he : h' = l
       ·have h0 : h'.toNat - l.toNat = 0 := by omega
        have h0' : (h' - l).toNat = 0 := by omega
        rw [h0, h0']
        exact .inr ⟨rfl, _, _, rfl⟩
       ·rw [if_neg (by omega)]
        refine .inl ⟨lc, lc.cap - l.toNat, hl, ?_, by omega⟩
        rw [hR.OE (by simp) c4 hl, hsz, show (h' - l).toNat = h'.toNat - l.toNat by omega]
        simp [add_eq]
     ·refine ⟨_, hrun rfl h1 h2 c1 c2 (by simp at c3; omega), .inr ⟨by simp at c3; omega, ?_⟩⟩
      have : h'.toNat - l.toNat = 0 := by simp at c3; omega
      rw [this]
      exact ⟨_, _, rfl⟩
    ·cases h
   ·cases h
  ·rename_i p lo0 n
   split at h
   ·rename_i l h' h1 h2
    split at h
    ·rename_i hc
     obtain ⟨c1, c2, c3, c5, c4⟩ := hc
     cases h
     have hp : p ≠ [] := by rintro rfl; simp at c5
     rcases hx with ⟨lc, cap, hl, rfl, hcap⟩ | ⟨rfl, A, cap, rfl⟩
     ·refine ⟨_, hrun rfl h1 h2 c1 c2 (by omega), ?_⟩
      rcases c4 with c4 | c4
      ·have h0 : h'.toNat - l.toNat = 0 := by omega
       have h0' : (h' - l).toNat = 0 := by omega
       rw [h0, h0']
       exact .inr ⟨rfl, _, _, rfl⟩
      ·by_cases he : h' = l
       ·have h0 : h'.toNat - l.toNat = 0 := by omega
        have h0' : (h' - l).toNat = 0 := by omega
        rw [h0, h0']
        exact .inr ⟨rfl, _, _, rfl⟩
       ·rw [if_neg (by omega)]
        refine .inl ⟨lc, cap - l.toNat, hl, ?_, by omega⟩
        rw [hR.OE hp c4 hl, hsz, show (h' - l).toNat = h'.toNat - l.toNat by omega]
        simp [add_eq, Nat.add_mul, Nat.add_assoc]
     ·refine ⟨_, hrun rfl h1 h2 c1 c2 (by simp at c3; omega), .inr ⟨by simp at c3; omega, ?_⟩⟩
      have : h'.toNat - l.toNat = 0 := by simp at c3; omega
      rw [this]
      exact ⟨_, _, rfl⟩
    ·cases h
   ·cases h
  ·cases h
theorem UM {t : TV} {n : Int} {x : Value} (h : YU t = some n) (ht : aD w S γ t x) : ∃ A k cap, x = .slice A k cap /\ n = k := by
 unfold YU at h
 split at h
 ·cases h
  rcases ht with ⟨l, _, rfl, _⟩ | ⟨_, rfl, rfl⟩ <;> exact ⟨_, _, _, rfl, rfl⟩
 ·cases h
  rcases ht with ⟨l, cap, _, rfl, _⟩ | ⟨rfl, A, cap, rfl⟩ <;> exact ⟨_, _, _, rfl, rfl⟩
 ·cases h
  cases ht with
  | nil => exact ⟨_, _, _, rfl, rfl⟩
  | sl _ _ _ _ _ => exact ⟨_, _, _, rfl, rfl⟩
 ·cases h
  cases jC ht
  exact ⟨_, _, _, rfl, rfl⟩
 ·cases h
theorem Sm {t : TV} {x : Value} (h : WS t = true) (ht : aD w S γ t x) : ∃ a, x = .pointer (some a) := by
 unfold WS at h
 split at h
 ·obtain ⟨l, _, rfl⟩ := ht; exact ⟨_, rfl⟩
 ·obtain ⟨b, off, vals, _, _, _, rfl⟩ := ht; exact ⟨_, rfl⟩
 ·cases ht with
  | bx _ _ _ => exact ⟨_, rfl⟩
 ·cases h
end
def Pd : TV -> Option Bool
 | .one (.c (.v (.bool b))) => some b
 | _ => none
def TA : TV -> Option ByteArray
 | .one (.c (.v (.string s))) => some s
 | _ => none
def Tq (Ty : Types) (st : St) (c : Call) : Option TV :=
 match c.args.toList, c.argTypes.toList with
 | [x], t :: _ => match Ty t with
  | none => none
  | some i => match i.k with
   | .string => (TA (evT st x)).map fun s => .one (.c (.v (.int .i64 s.size)))
   | .slice _ => (YU (evT st x)).map fun n => .one (.c (.v (.int .i64 n)))
   | _ => none
 | _, _ => none
def rR (Ty : Types) (st : St) (t : TypeId) (x : Operand) : Option TV :=
 match Ty t with
 | none => none
 | some i => match evT st x with
  | .one p => (Bz st.m i.size p).bind (XV i.k.agg)
  | _ => none
def vA (Ty : Types) (s f : Nat) (g : Nat -> jj -> Option TV) : Option TV :=
 match Ty s with
 | none => none
 | some i => match i.k with
  | .struct fs => match fs[f]? with
   | none => none
   | some (off, ft) => match Ty ft with
    | none => none
    | some fi => g off fi
  | _ => none
def kh (Ty : Types) (st : St) (t : TypeId) (x ix : Operand) : Option TV :=
 match Ty t with
 | none => none
 | some i => match i.k with
  | .slice e => match Ty e with
   | none => none
   | some ei => match KQ (evT st ix) with
    | none => none
    | some n => indexAt st.m ei.size n (evT st x)
  | _ => none
def Cg (Ty : Types) (st : St) (t : TypeId) (x ix : Operand) : Option TV :=
 match Ty t with
 | none => none
 | some i => match i.k with
  | .string => match TA (evT st x), KQ (evT st ix) with
   | some s, some n => if 0 <= n /\ n < s.size then some (.one (.c (.v (.int .u8 (bD s n))))) else none
   | _, _ => none
  | _ => none
def qx (Ty : Types) (st : St) (t : TypeId) (x : Operand) (lo hi : Option Operand) : Option TV :=
 match Ty t with
 | none => none
 | some i => match i.k with
  | .string => match evT st x with
   | .one (.c (.v (.string s))) => yJ st.m 0 (lo.map (evT st)) (hi.map (evT st)) (.one (.c (.v (.string s))))
   | _ => none
  | .slice e => match Ty e with
   | none => none
   | some ei => match evT st x with
    | .one (.c (.v (.string _))) => none
    | tx => yJ st.m ei.size (lo.map (evT st)) (hi.map (evT st)) tx
  | _ => none
def Hh (Ty : Types) (st : St) (src dst : TypeId) (x : Operand) : Option TV :=
 match Ty src, Ty dst with
 | some i, some j => match i.k, j.k with
  | .int _, .int k => (KQ (evT st x)).map fun n => .one (.c (.v (.int k (k.wrap n))))
  | .string, .string => (TA (evT st x)).map fun s => .one (.c (.v (.string s)))
  | _, _ => none
 | _, _ => none
def dR (Ty : Types) (st : St) : Op -> Option TV
 | .move x => some (evT st x)
 | .assign x => some (evT st x)
 | .pick c x y => (Pd (evT st c)).map fun b => Xm b (evT st x) (evT st y)
 | .unOp .not _ x => (Pd (evT st x)).map fun b => .one (.c (.v (.bool (!b))))
 | .binOp op t x y _ => match Ty t with
  | none => none
  | some i => VI i op (evT st x) (evT st y)
 | .load t x => rR Ty st t x
 | .fieldAddr s x f => vA Ty s f fun off fi => if fi.size = 0 then none else fieldAt off (evT st x)
 | .field s x f => vA Ty s f fun off fi => Xk fi off (evT st x)
 | .indexAddr t x ix => kh Ty st t x ix
 | .index t x ix => Cg Ty st t x ix
 | .slice t x lo hi none => qx Ty st t x lo hi
 | .extract x ix => match evT st x with
  | .tup l => (l[ix]?).map t2V
  | _ => none
 | .nilCheck x => if WS (evT st x) then some (evT st x) else none
 | .convert src dst x => Hh Ty st src dst x
 | .call { callee := .builtin .len, args, argTypes } => Tq Ty st { callee := .builtin .len, args, argTypes }
 | _ => none
section
variable {P : Program} {Ty : Types} {B : da} {S : Nat -> Prop} {γ : Path -> Option Loc} {st : St} {a : Act} {w : World}
theorem HZ {t : TV} {b : Bool} {x : Value} (h : Pd t = some b) (ht : aD w S γ t x) : x = .bool b := by
 unfold Pd at h
 split at h
 ·cases h; exact jC ht
 ·cases h
theorem zw {t : TV} {b : ByteArray} {x : Value} (h : TA t = some b) (ht : aD w S γ t x) : x = .string b := by
 unfold TA at h
 split at h
 ·cases h; exact jC ht
 ·cases h
theorem mD {s f : Nat} {g : Nat -> jj -> Option TV} {tv : TV} (hTy : lT P Ty) (h : vA Ty s f g = some tv) :
  ∃ (i : jj) (fs : List (Nat × TypeId)) (off ft : Nat) (fi : jj), i.OK P s /\ i.k = .struct fs /\ fs[f]? = some (off, ft) /\ fi.OK P ft /\ g off fi = some tv := by
 unfold vA at h
 split at h
 ·cases h
 ·rename_i i hi
  split at h
  ·rename_i fs hk
   split at h
   ·cases h
   ·rename_i off ft hf
    split at h
    ·cases h
    ·rename_i fi hfi
     exact ⟨i, fs, off, ft, fi, hTy _ _ hi, hk, hf, hTy _ _ hfi, h⟩
  ·cases h
theorem sr.map (hR : Rel B S γ st a w) (x : Option Operand) : sr w S γ (x.map (evT st)) (x.map a.eval) := by
 cases x with
 | none => trivial
 | some x => exact hR.evT x
def sJ (w w' : World) : Prop := w.heap.size <= w'.heap.size /\ ∀ b, b < w.heap.size -> w'.heap[b]? = w.heap[b]?
theorem sJ.refl (w : World) : sJ w w := ⟨Nat.le_refl _, fun _ _ => rfl⟩
theorem sJ.trans {a b c : World} (h : sJ a b) (k : sJ b c) : sJ a c := ⟨Nat.le_trans h.1 k.1, fun i hi => (k.2 i (Nat.lt_of_lt_of_le hi h.1)).trans (h.2 i hi)⟩
theorem sJ.cell {w w' : World} (h : sJ w w') {b o : Nat} {v : Value} (hc : w.cell? ⟨b, o, none⟩ = some v) : w'.cell? ⟨b, o, none⟩ = some v := by
 have hb : b < w.heap.size := by
  unfold World.cell? at hc
  cases hh : w.heap[b]? with
  | none => simp [hh] at hc
  | some ob => exact bT hh
 rw [World.cell?_of_block (w := w) (h.2 b hb)]
 exact hc
theorem EG (hTy : lT P Ty) (hR : Rel B S γ st a w) {o : Oper} {tv : TV} (h : dR Ty st o.op = some tv) :
  ∃ v, (∀ w', sJ w w' -> (execOp a.eval o).run P w' = .ok (.value v) w') /\ aD w S γ tv v := by
 unfold dR at h
 split at h
 ·rename_i x ho
  cases h
  exact ⟨_, fun w' hw => by simp [execOp, ho], hR.evT x⟩
 ·rename_i x ho
  cases h
  exact ⟨_, fun w' hw => by simp [execOp, ho], hR.evT x⟩
 ·rename_i c x y ho
  cases hb : Pd (evT st c) with
  | none => rw [hb] at h; cases h
  | some b =>
   rw [hb] at h
   cases h
   have hv := HZ hb (hR.evT c)
   exact ⟨_, fun w' hw => by simp [execOp, ho, hv, asBool], SP (hR.evT x) (hR.evT y)⟩
 ·rename_i t x ho
  cases hb : Pd (evT st x) with
  | none => rw [hb] at h; cases h
  | some b =>
   rw [hb] at h
   cases h
   have hv := HZ hb (hR.evT x)
   exact ⟨.bool (!b), fun w' hw => by simp [execOp, ho, hv, Op.unary], .v rfl⟩
 ·rename_i op t x y yt ho
  split at h
  ·cases h
  ·rename_i i hi
   obtain ⟨r, h1, h2⟩ := Un (P := P) (w := w) (x := x) (y := y) (hTy _ _ hi) (hR.evT x) (hR.evT y) h
   refine ⟨r, fun w' hw => ?_, h2⟩
   simp only [execOp, ho]
   rw [Sem.run_bind, h1]
   simp
 ·rename_i t x ho
  unfold rR at h
  split at h
  ·cases h
  ·rename_i i hi
   split at h
   ·rename_i p hp
    have hpv := hR.evT x
    rw [hp] at hpv
    cases hl : Bz st.m i.size p with
    | none => rw [hl] at h; cases h
    | some l =>
     rw [hl] at h
     obtain ⟨b, o', vals, hx, hlen, hc, hall⟩ := Ei hR hpv hl
     have hi' := hTy _ _ hi
     cases hagg : i.k.agg with
     | true =>
      have := fun w' (hw : sJ w w') => oI (P := P) (w := w') hi' hlen (fun k v hk => sJ.cell hw (hc k v hk)) (.inl hagg)
      rw [hagg] at h this
      cases h
      exact ⟨_, fun w' hw => by simp [execOp, ho, Instr.loadAt, hx, Instr.sureAddr, this w' hw], vals, rfl, hall⟩
     | false =>
      rw [hagg] at h
      simp only [Option.bind_some, XV, Bool.false_eq_true, if_false] at h
      split at h
      ·rename_i t1
       cases h
       have h1 : i.size = 1 := by rw [<- hlen, <- hall.1]; rfl
       have := fun w' (hw : sJ w w') => oI (P := P) (w := w') hi' hlen (fun k v hk => sJ.cell hw (hc k v hk)) (.inr h1)
       obtain ⟨v, vs, rfl, hv, hvs⟩ := hall.dQ
       rw [hagg] at this
       exact ⟨v, fun w' hw => by simp [execOp, ho, Instr.loadAt, hx, Instr.sureAddr, this w' hw], hv⟩
      ·cases h
   ·cases h
 ·rename_i s x f ho
  obtain ⟨i, fs, off, ft, fi, hi, hk, hf, hfi, hg⟩ := mD hTy h
  split at hg
  ·cases hg
  ·rename_i hz
   obtain ⟨v, h1, h2⟩ := Aq (P := P) hi hk hf hfi hz (hR.evT x) hg
   exact ⟨v, fun w' hw => by simp [execOp, ho, h1], h2⟩
 ·rename_i s x f ho
  obtain ⟨i, fs, off, ft, fi, hi, hk, hf, hfi, hg⟩ := mD hTy h
  obtain ⟨v, h1, h2⟩ := SN (P := P) hi hk hf hfi (hR.evT x) hg
  exact ⟨v, fun w' hw => by simp [execOp, ho, h1], h2⟩
 ·rename_i t x ix ho
  unfold kh at h
  split at h
  ·cases h
  ·rename_i i hi
   split at h
   ·rename_i e hk
    split at h
    ·cases h
    ·rename_i ei hei
     split at h
     ·cases h
     ·rename_i n hn
      obtain ⟨k, hkv⟩ := iT hn (hR.evT ix)
      obtain ⟨v, h1, h2⟩ := LC (P := P) (k := k) hR (hTy _ _ hi) hk (hTy _ _ hei) (hR.evT x) h
      exact ⟨v, fun w' hw => by simp [execOp, ho, hkv, h1], h2⟩
   ·cases h
 ·rename_i t x ix ho
  unfold Cg at h
  split at h
  ·cases h
  ·rename_i i hi
   split at h
   ·rename_i hk
    split at h
    ·rename_i s n hs hn
     split at h
     ·rename_i hc
      cases h
      obtain ⟨k, hkv⟩ := iT hn (hR.evT ix)
      have hsv := zw hs (hR.evT x)
      have hu : P.underlying t = some .string := by have := (hTy _ _ hi).1; rw [hk] at this; exact this
      have hlt : n.toNat < s.size := by omega
      refine ⟨.int .u8 (bD s n), fun w' hw => ?_, .v rfl⟩
      simp [execOp, ho, hkv, hsv, Instr.index, asIntOf, run_underlying hu, hc.1, bD, hlt]
     ·cases h
    ·cases h
   ·cases h
 ·rename_i t x lo hi' ho
  unfold qx at h
  split at h
  ·cases h
  ·rename_i i hi
   split at h
   ·rename_i hk
    split at h
    ·rename_i s hs
     have hx := hR.evT x
     rw [hs] at hx
     obtain ⟨v, h1, h2⟩ := ED (e := 0) (ei := i) (P := P) hR (hTy _ _ hi) (.inl hk) (.inl hk) (sr.map hR lo) (sr.map hR hi') hx (by simp [hk]) h
     exact ⟨v, fun w' hw => by simp [execOp, ho, h1], h2⟩
    ·cases h
   ·rename_i e hk
    split at h
    ·cases h
    ·rename_i ei hei
     split at h
     ·cases h
     ·rename_i hns
      obtain ⟨v, h1, h2⟩ := ED (P := P) hR (hTy _ _ hi) (.inr ⟨hk, hTy _ _ hei⟩) (.inr rfl) (sr.map hR lo) (sr.map hR hi') (hR.evT x)
       (Iff.intro (fun hks => by rw [hk] at hks; cases hks) (fun ⟨s, hs⟩ => absurd hs (hns s))) h
      exact ⟨v, fun w' hw => by simp [execOp, ho, h1], h2⟩
   ·cases h
 ·rename_i x ix ho
  split at h
  ·rename_i l hl
   have hx := hR.evT x
   rw [hl] at hx
   obtain ⟨xs, hxs, hall⟩ := hx
   cases hg : l[ix]? with
   | none => rw [hg] at h; cases h
   | some t =>
    rw [hg] at h
    cases h
    obtain ⟨v, h1, h2⟩ := hall.get hg
    refine ⟨v, fun w' hw => by simp [execOp, ho, Instr.extract, hxs, h1], ?_⟩
    cases t with
    | one t => exact h2
    | agg l => exact h2
  ·cases h
 ·rename_i x ho
  split at h
  ·rename_i hp
   cases h
   obtain ⟨ad, had⟩ := Sm hp (hR.evT x)
   exact ⟨_, fun w' hw => by simp [execOp, ho, had], had ▸ hR.evT x⟩
  ·cases h
 ·rename_i src dst x ho
  unfold Hh at h
  split at h
  ·rename_i i j hi hj
   have h1 := (hTy _ _ hi).1
   have h2 := (hTy _ _ hj).1
   split at h
   ·rename_i k0 k hk0 hk
    rw [hk0] at h1
    rw [hk] at h2
    cases hn : KQ (evT st x) with
    | none => rw [hn] at h; cases h
    | some n =>
     rw [hn] at h
     cases h
     obtain ⟨kx, hx⟩ := iT hn (hR.evT x)
     exact ⟨.int k (k.wrap n), fun w' hw => by simp [execOp, ho, hx, convert, run_underlying (show P.underlying src = _ from h1), run_underlying (show P.underlying dst = _ from h2), Conv.intToInt], .v rfl⟩
   ·rename_i hk0 hk
    rw [hk0] at h1
    rw [hk] at h2
    cases hn : TA (evT st x) with
    | none => rw [hn] at h; cases h
    | some s =>
     rw [hn] at h
     cases h
     have hx := zw hn (hR.evT x)
     exact ⟨.string s, fun w' hw => by simp [execOp, ho, hx, convert, run_underlying (show P.underlying src = _ from h1), run_underlying (show P.underlying dst = _ from h2)], .v rfl⟩
   ·cases h
  ·cases h
 ·rename_i args argTypes ho
  unfold Tq at h
  split at h
  ·rename_i x t ts hargs hts
   simp only [] at hargs hts
   have e1 : args = #[x] := by cases args; simp_all
   have e2 : argTypes[0]? = some t := by rw [<- Array.getElem?_toList, hts]; rfl
   split at h
   ·cases h
   ·rename_i i hi
    have h1 := (hTy _ _ hi).1
    split at h
    ·rename_i hk
     rw [hk] at h1
     cases hn : TA (evT st x) with
     | none => rw [hn] at h; cases h
     | some s =>
      rw [hn] at h
      cases h
      have hx := zw hn (hR.evT x)
      refine ⟨.int .i64 s.size, fun w' hw => ?_, .v rfl⟩
      simp [execOp, ho, resolve, invoke, builtin, Builtin.len_, e1, e2, hx, run_underlying (show P.underlying t = _ from h1), goInt]
    ·rename_i e hk
     rw [hk] at h1
     cases hn : YU (evT st x) with
     | none => rw [hn] at h; cases h
     | some n =>
      rw [hn] at h
      cases h
      obtain ⟨A, k, cap, hx, rfl⟩ := UM hn (hR.evT x)
      refine ⟨.int .i64 k, fun w' hw => ?_, .v rfl⟩
      simp [execOp, ho, resolve, invoke, builtin, Builtin.len_, e1, e2, hx, run_underlying (show P.underlying t = _ from h1), goInt]
    ·cases h
  ·cases h
 ·cases h
theorem Tv (hTy : lT P Ty) (hR : Rel B S γ st a w) {o : Oper} {tv : TV} (h : dR Ty st o.op = some tv) :
  ∃ v, (execOp a.eval o).run P w = .ok (.value v) w /\ aD w S γ tv v := by
 obtain ⟨v, h1, h2⟩ := EG (P := P) hTy hR h
 exact ⟨v, h1 w (sJ.refl w), h2⟩
end
end Go.Mv
