/- The operations that write do what is told of them, for every state that is so told. -/
import Derived.Test.YtgenimghpoemmaaGreatDoorMvI
import Derived.Lib.ConvBytes
import Derived.Laws.BytesArg
import Derived.Laws.Append
import Derived.Laws.Tables
import Derived.Laws.MakeOwn
import Derived.Great.BuildSlice
import Derived.IntWalk
set_option linter.unusedVariables false
set_option linter.unusedSimpArgs false
namespace Go.Mv
open Go.RowKit
section
variable {P : Program} {B : da} {S : Nat -> Prop} {γ : Path -> Option Loc} {st : St} {a : Act} {w : World}
theorem ax {α β : Type} {l : List α} {g : α -> β} {k : Nat} {b : β} (h : (l.map g)[k]? = some b) : ∃ x, l[k]? = some x /\ g x = b := by
 rw [List.getElem?_map] at h
 cases hx : l[k]? with
 | none => rw [hx] at h; cases h
 | some x => rw [hx] at h; cases h; exact ⟨x, rfl, rfl⟩
theorem dB (γ δ : Path -> Option Loc) (q : Path) (i f : Nat) : ∀ p, ¬ q ++ [(i, f)] <+: p -> nd γ q i f δ p = γ p := fun _ hp => bu hp
theorem Rel.Oy {w' : World} {rows : Rows} {q : Path} {i f : Nat} {c x : C} {δ : Path -> Option Loc} (h : Rel B S γ st a w)
  (hmem : bf w' S (bh st.m q (bz rows i f x)) (nd γ q i f δ)) (hq : ay st.m q = some rows) (hc : at2 rows i f = some c) (hSw : ∀ b, S b -> w'.heap[b]? = w.heap[b]?)
  (hsz : w.heap.size <= w'.heap.size) (hfr : Frame B w') (hown : ∀ s rs l, cS x s = some rs -> δ s = some l -> yN B l) (hfix : q = [] -> i < B.np -> x.rows ≠ none -> δ [] = B.g [(i, f)]) :
  Rel B S (nd γ q i f δ) { t := st.t.map (TV.bX (T1.forget (q ++ [(i, f)]))), m := bh st.m q (bz rows i f x) } a w' := by
 have key := @fm st.m rows q i f x c hq hc
 refine ⟨h.sS, fun b hb => Nat.lt_of_lt_of_le (h.lt b hb) hsz, hmem, fun k t hk => ?_, by simp [h.size], ?_, h.defers, fun q' rows' l hne hr hl => ?_, fun i' f' c' hi' hc' hrows => ?_, hfr⟩
 ·obtain ⟨t0, ht0, rfl⟩ := ax hk
  exact aD.forget (dB γ δ q i f) (aD.imp (fun _ _ ht => au.frame (fun _ hb => hb) hSw ht) (h.tv k t0 ht0))
 ·simp only [List.length_map]
  rw [eg st.m q rows _ hq (fF _ _ _ _)]
  exact h.msize
 ·rcases key q' rows' hr with ⟨s, rfl, hs⟩ | ⟨hn, rows0, h1, _⟩
  ·rw [dM] at hl; exact hown s rows' l hs hl
  ·rw [bu hn] at hl; exact h.own q' rows0 l hne h1 hl
 ·have hr : ay (bh st.m q (bz rows i f x)) [] = some (bh st.m q (bz rows i f x)) := rfl
  rcases key [] _ hr with ⟨s, hs, _⟩ | ⟨hn, rows0, h1, h2, h3, h4⟩
  ·simp at hs
  ·simp only [ay, Option.some.injEq] at h1
   subst h1
   rcases h4 i' f' c' hc' with ⟨rfl, rfl, rfl, rfl⟩ | ⟨hno, c0, hc0, hor⟩
   ·have := dM γ [] i' f' δ []
    simp only [List.nil_append] at this
    rw [this]
    exact hfix rfl hi' hrows
   ·have := He hn hno
    simp only [List.nil_append] at this
    rw [bu this]
    refine h.fix i' f' c0 hi' hc0 ?_
    rcases hor with rfl | ⟨cr, cr', e1, e2, rfl⟩
    ·exact hrows
    ·rw [e1]; simp
theorem Rel.ZG {w' : World} {rows : Rows} {q : Path} {i f : Nat} {c x : C} {δ : Path -> Option Loc} (h : Rel B S γ st a w)
  (hmem : bf w' S (bh st.m q (bz rows i f x)) (nd γ q i f δ)) (hq : ay st.m q = some rows) (hc : at2 rows i f = some c) (hx : x.rows = none) (hSw : ∀ b, S b -> w'.heap[b]? = w.heap[b]?)
  (hsz : w.heap.size <= w'.heap.size) (hfr : Frame B w') :
  Rel B S γ { t := st.t, m := bh st.m q (bz rows i f x) } a w' := by
 have key := @fm st.m rows q i f x c hq hc
 refine ⟨h.sS, fun b hb => Nat.lt_of_lt_of_le (h.lt b hb) hsz, hmem.Va hq hc hx, fun k t hk => ?_, h.size, ?_, h.defers, fun q' rows' l hne hr hl => ?_, fun i' f' c' hi' hc' hrows => ?_, hfr⟩
 ·exact aD.imp (fun _ _ ht => au.frame (fun _ hb => hb) hSw ht) (h.tv k t hk)
 ·show (bh st.m q (bz rows i f x)).length = _
  rw [eg st.m q rows _ hq (fF _ _ _ _)]
  exact h.msize
 ·rcases key q' rows' hr with ⟨s, rfl, hs⟩ | ⟨hn, rows0, h1, _⟩
  ·simp [cS, hx] at hs
  ·exact h.own q' rows0 l hne h1 hl
 ·have hr : ay (bh st.m q (bz rows i f x)) [] = some (bh st.m q (bz rows i f x)) := rfl
  rcases key [] _ hr with ⟨s, hs, _⟩ | ⟨hn, rows0, h1, h2, h3, h4⟩
  ·simp at hs
  ·simp only [ay, Option.some.injEq] at h1
   subst h1
   rcases h4 i' f' c' hc' with ⟨_, _, _, rfl⟩ | ⟨hno, c0, hc0, hor⟩
   ·exact absurd hx hrows
   ·refine h.fix i' f' c0 hi' hc0 ?_
    rcases hor with rfl | ⟨cr, cr', e1, e2, rfl⟩
    ·exact hrows
    ·rw [e1]; simp
theorem Hdr.alloc {c : C} {l : Option Loc} {v : Value} (hS : ∀ b, S b -> b < w.heap.size) (h : Hdr w S c l v) (o : Obj) : Hdr (w.alloc o) S c l v :=
 h.frame (fun _ hb => hb) (fun b hb => cH w o (hS b hb))
theorem qh {c : C} {v : Value} {r : Rows} (h : Hdr w S c none v) (hr : c.rows = some r) : r = [] := by
 cases c with
 | sl sz rows => simp only [C.rows, Option.some.injEq] at hr; subst hr; exact h.1
 | bx row => exact h.elim
 | _ => simp [C.rows] at hr
theorem yV {rows : Rows} {sz i f : Nat} {c : C} (hs : ∀ r ∈ rows, r.length = sz) (h : at2 rows i f = some c) : rows.flatten[i * sz + f]? = some c := by
 unfold at2 at h
 cases hr : rows[i]? with
 | none => rw [hr] at h; cases h
 | some row =>
  rw [hr] at h
  simp only [Option.bind_some] at h
  have hf : f < sz := by rw [<- hs row (List.mem_of_getElem? hr)]; exact (List.getElem?_eq_some_iff.1 h).1
  rw [Gt row rows sz hs i hr f hf]
  exact h
theorem Det.US {x : C} {rows : Rows} {vals : List Value} {cells : Array Value} {e : TypeId} {lo hi cap sz : Nat} {v : Value} (hS : ∀ b, S b -> b < w.heap.size) (hx : x.rows = some rows)
  (hv : cK (fun c v => Hdr w S c none v) rows.flatten vals) (hs : ∀ r ∈ rows, r.length = sz) (hcap : rows.length <= cap) (hc : ∀ (k : Nat) (u : Value), vals[k]? = some u -> cells[k]? = some u)
  (hsize : cap * sz <= cells.size) (hz : ∀ o, o < cap * sz -> ¬ (lo <= o /\ o < hi)) (hh : Hdr (w.alloc (.cells cells e (lo, hi))) S x (some ⟨w.heap.size, 0, cap, sz⟩) v) (hlh : hi <= cells.size \/ sz = 1 := by exact .inl (Nat.zero_le _)) :
  Det (w.alloc (.cells cells e (lo, hi))) S x (fun s => if s = [] then some ⟨w.heap.size, 0, cap, sz⟩ else none) v := by
 have hnew := jr w (.cells cells e (lo, hi))
 have hcell : ∀ i f c, at2 rows i f = some c -> ∃ u, (w.alloc (.cells cells e (lo, hi))).cell? ⟨w.heap.size, 0 + i * sz + f, none⟩ = some u /\ Hdr w S c none u := by
  intro i f c hcc
  obtain ⟨u, h1, h2⟩ := hv.get (yV hs hcc)
  exact ⟨u, by simp only [World.cell?, hnew]; simpa using hc _ u h1, h2⟩
 have hsub : ∀ s rs, s ≠ [] -> cS x s = some rs -> rs = [] := by
  intro s rs hne h
  cases s with
  | nil => exact absurd rfl hne
  | cons p s =>
   obtain ⟨i, f⟩ := p
   simp only [cS, hx, Option.bind_some, ay] at h
   cases hcc : at2 rows i f with
   | none => rw [hcc] at h; cases h
   | some c =>
    rw [hcc] at h
    simp only [Option.bind_some] at h
    cases hr : c.rows with
    | none => rw [hr] at h; cases h
    | some r =>
     rw [hr] at h
     simp only [Option.bind_some] at h
     obtain ⟨u, _, h2⟩ := hcell i f c hcc
     rw [qh h2 hr] at h
     cases s with
     | nil => cases h; rfl
     | cons p s => obtain ⟨i', f'⟩ := p; simp [ay, at2] at h
 refine ⟨hh, fun s rs hr => ?_, fun s rs l i f c hr hl hcc => ?_, fun s s' rs rs' l l' hr hr' hl hl' _ => ?_⟩
 ·by_cases hs0 : s = []
  ·subst hs0
   rw [if_pos rfl]
   simp only [cS, hx, Option.bind_some, ay, Option.some.injEq] at hr
   subst hr
   exact ⟨fun hb => Nat.lt_irrefl _ (hS _ hb), hcap, hs, cells, e, lo, hi, hnew, ⟨by simpa using hsize, hlh⟩, fun o _ ho => hz o (by simpa using ho)⟩
  ·rw [if_neg hs0]
   exact hsub s rs hs0 hr
 ·by_cases hs0 : s = []
  ·subst hs0
   rw [if_pos rfl] at hl
   cases hl
   simp only [cS, hx, Option.bind_some, ay, Option.some.injEq] at hr
   subst hr
   obtain ⟨u, h1, h2⟩ := hcell i f c hcc
   exact ⟨u, h1, by rw [if_neg (by simp)]; exact h2.alloc hS _⟩
  ·rw [if_neg hs0] at hl
   cases hl
 ·by_cases hs0 : s = []
  ·by_cases hs1 : s' = []
   ·rw [hs0, hs1]
   ·rw [if_neg hs1] at hl'; cases hl'
  ·rw [if_neg hs0] at hl; cases hl
theorem bf.lt {mem : Rows} (h : bf w S mem γ) {q : Path} {rows : Rows} {l : Loc} (hq : q ≠ []) (hr : ay mem q = some rows) (hl : γ q = some l) : l.b < w.heap.size := by
 have := h.loc q rows hq hr
 rw [hl] at this
 obtain ⟨_, _, _, cells, e, lo, hi, h4, _⟩ := this
 exact bT h4
theorem Rel.BC {x : C} {rows : Rows} {vals : List Value} {cells : Array Value} {e : TypeId} {lo hi cap sz d : Nat} {v : Value} {c : C} (h : Rel B S γ st a w) (hd : B.np <= d) (hc0 : at2 st.m d 0 = some c)
  (hx : x.rows = some rows) (hv : cK (fun c v => Hdr w S c none v) rows.flatten vals) (hs : ∀ r ∈ rows, r.length = sz) (hcap : rows.length <= cap)
  (hc : ∀ (k : Nat) (u : Value), vals[k]? = some u -> cells[k]? = some u) (hsize : cap * sz <= cells.size) (hz : ∀ o, o < cap * sz -> ¬ (lo <= o /\ o < hi))
  (hh : Hdr (w.alloc (.cells cells e (lo, hi))) S x (some ⟨w.heap.size, 0, cap, sz⟩) v) (hlh : hi <= cells.size \/ sz = 1 := by exact .inl (Nat.zero_le _)) :
  ∃ γ', Rel B S γ' { t := st.t.map (TV.bX (T1.forget [(d, 0)])), m := bz st.m d 0 x } a (w.alloc (.cells cells e (lo, hi))) /\ γ' [(d, 0)] = some ⟨w.heap.size, 0, cap, sz⟩ /\
   ∀ t v, au w S γ t v -> au (w.alloc (.cells cells e (lo, hi))) S γ' (T1.forget [(d, 0)] t) v := by
 have hdet := Det.US (v := v) h.lt hx hv hs hcap hc hsize hz hh hlh
 have hSw : ∀ b, S b -> (w.alloc (.cells cells e (lo, hi))).heap[b]? = w.heap[b]? := fun b hb => cH w _ (h.lt b hb)
 have hmem : bf (w.alloc (.cells cells e (lo, hi))) S st.m γ := h.mem.frame (fun _ hb => hb) hSw (fun q rows l hq hr hl => ⟨cH w _ (h.mem.lt hq hr hl), by
  have := h.mem.loc q rows hq hr
  rw [hl] at this
  exact this.1⟩)
 have hap : pk st.m γ x (fun s => if s = [] then some ⟨w.heap.size, 0, cap, sz⟩ else none) := by
  intro q rs l s rs' l' hq hr hl _ hl' hb
  dsimp only at hl'
  by_cases hs0 : s = []
  ·rw [if_pos hs0] at hl'
   cases hl'
   exact Nat.lt_irrefl _ (hb ▸ h.mem.lt hq hr hl)
  ·rw [if_neg hs0] at hl'; cases hl'
 refine ⟨_, Rel.Oy (q := []) (rows := st.m) (i := d) (f := 0) (c := c) (x := x) h (hmem.rD hdet hap hc0) rfl hc0 hSw (by rw [World.alloc]; simp) (h.fr.alloc _) (fun s rs l hr hl => ?_) (fun _ hlt => absurd hlt (by omega)), ?_, fun t v ht => au.forget (dB _ _ [] d 0) (au.frame (fun _ hb => hb) hSw ht)⟩
 ·by_cases hs0 : s = []
  ·rw [if_pos hs0] at hl
   cases hl
   exact .inl h.fr.size
  ·rw [if_neg hs0] at hl; cases hl
 ·have := dM γ [] d 0 (fun s => if s = [] then some ⟨w.heap.size, 0, cap, sz⟩ else none) []
  simp only [List.nil_append] at this
  rw [this]
  simp
end
end Go.Mv
namespace Go.Mv
open Go.RowKit
def oR : T1 -> Option (Path × Nat × Nat × Option Nat)
 | .so q i f n => some (q, i, f, some n)
 | .pl p 0 0 => match p.getLast? with
  | some (i, f) => some (p.dropLast, i, f, none)
  | none => none
 | _ => none
def fits : C -> Option Nat -> Bool
 | .sl _ rs, some n => rs.length == n
 | .bx _, none => true
 | _, _ => false
def pF (m : Rows) (p : Path) (i f : Nat) (t : T1) : Option (Rows × Path) :=
 match oR t with
 | none => none
 | some (q1, i1, f1, n) => match ay m q1 with
  | none => none
  | some rows1 => match at2 rows1 i1 f1 with
   | none => none
   | some x => if fits x n then
     match ay (bh m q1 (bz rows1 i1 f1 .dead)) p with
     | none => none
     | some rows => match at2 rows i f with
      | none => none
      | some _ => some (bh (bh m q1 (bz rows1 i1 f1 .dead)) p (bz rows i f x), q1 ++ [(i1, f1)])
    else none
section
variable {P : Program} {B : da} {S : Nat -> Prop} {γ : Path -> Option Loc} {st : St} {a : Act} {w : World}
theorem bf.mC {mem rows : Rows} (h : bf w S mem γ) {q : Path} {i f : Nat} {c : C} (hq : ay mem q = some rows) (hc : at2 rows i f = some c) : ∃ y, Hdr w S c (γ (q ++ [(i, f)])) y := by
 by_cases hne : q = []
 ·subst hne
  simp only [ay, Option.some.injEq] at hq
  subst hq
  exact h.head i f c hc
 ·cases hl : γ q with
  | none =>
   have := h.loc q rows hne hq
   rw [hl] at this
   rw [(show rows = [] from this)] at hc
   simp [at2] at hc
  | some l =>
   obtain ⟨x, _, h2⟩ := h.cell q rows l i f c hne hq hl hc
   exact ⟨x, h2⟩
theorem Ux {t : T1} {q1 : Path} {i1 f1 : Nat} {n : Option Nat} {x : C} {v : Value} (hy : ∃ y, Hdr w S x (γ (q1 ++ [(i1, f1)])) y) (hs : oR t = some (q1, i1, f1, n)) (hf : fits x n = true) (ht : au w S γ t v) :
  Hdr w S x (γ (q1 ++ [(i1, f1)])) v /\ ∃ r, x.rows = some r := by
 cases t with
 | so q i f n0 =>
  simp only [oR, Option.some.injEq, Prod.mk.injEq] at hs
  obtain ⟨rfl, rfl, rfl, rfl⟩ := hs
  cases x with
  | sl sz rs =>
   have hn : rs.length = n0 := by simpa [fits] using hf
   subst hn
   refine ⟨?_, rs, rfl⟩
   rcases ht with ⟨l, hl, hv, hc⟩ | ⟨hl, hz, hv⟩
   ·obtain ⟨y, hy⟩ := hy
    rw [hl] at hy ⊢
    exact ⟨hv, hc, hy.2.2⟩
   ·rw [hl]; exact ⟨List.eq_nil_of_length_eq_zero hz, hv⟩
  | _ => simp [fits] at hf
 | pl p i f =>
  cases i with
  | succ i => simp [oR] at hs
  | zero =>
   cases f with
   | succ f => simp [oR] at hs
   | zero =>
    simp only [oR] at hs
    cases hg : p.getLast? with
    | none => rw [hg] at hs; cases hs
    | some y =>
     obtain ⟨i', f'⟩ := y
     rw [hg] at hs
     simp only [Option.some.injEq, Prod.mk.injEq] at hs
     obtain ⟨rfl, rfl, rfl, rfl⟩ := hs
     have hp : p.dropLast ++ [(i', f')] = p := by
      have hne : p ≠ [] := by rintro rfl; simp at hg
      have := List.dropLast_concat_getLast hne
      rw [List.getLast?_eq_some_getLast hne, Option.some.injEq] at hg
      rwa [hg] at this
     rw [hp]
     cases x with
     | bx row =>
      obtain ⟨l, hl, hv⟩ := ht
      rw [hl]
      exact ⟨(by simpa using hv : v = .pointer (some ⟨l.b, l.off, none⟩)), [row], rfl⟩
     | _ => simp [fits] at hf
 | _ => simp [oR] at hs
theorem Rel.Zb {p : Path} {i f : Nat} {t : T1} {m' : Rows} {src : Path} {v : Value} {l : Loc} (h : Rel B S γ st a w) (hp : p ≠ []) (ht : au w S γ t v) (hl : γ p = some l)
  (hcell : w.cell? ⟨l.b, l.off + i * l.sz + f, none⟩ = some v) (ha : pF st.m p i f t = some (m', src)) :
  ∃ γ', Rel B S γ' { t := (st.t.map (TV.bX (T1.forget src))).map (TV.bX (T1.forget (p ++ [(i, f)]))), m := m' } a w /\
   (∀ t v, au w S γ t v -> au w S γ' ((T1.forget src t).forget (p ++ [(i, f)])) v) /\ γ' p = some l := by
 unfold pF at ha
 cases hs : oR t with
 | none => rw [hs] at ha; cases ha
 | some y =>
  obtain ⟨q1, i1, f1, n⟩ := y
  rw [hs] at ha
  simp only [] at ha
  cases h1 : ay st.m q1 with
  | none => rw [h1] at ha; cases ha
  | some rows1 =>
   rw [h1] at ha
   simp only [] at ha
   cases h2 : at2 rows1 i1 f1 with
   | none => rw [h2] at ha; cases ha
   | some x =>
    rw [h2] at ha
    simp only [] at ha
    by_cases hfit : fits x n = true
    ·rw [if_pos hfit] at ha
     obtain ⟨hhdr, r, hr⟩ := Ux (h.mem.mC h1 h2) hs hfit ht
     cases h3 : ay (bh st.m q1 (bz rows1 i1 f1 .dead)) p with
     | none => rw [h3] at ha; cases ha
     | some rows =>
      rw [h3] at ha
      simp only [] at ha
      cases h4 : at2 rows i f with
      | none => rw [h4] at ha; cases ha
      | some c =>
       rw [h4] at ha
       simp only [Option.some.injEq, Prod.mk.injEq] at ha
       obtain ⟨rfl, rfl⟩ := ha
       have hdet := h.mem.det h1 h2 hhdr
       have hkill := h.mem.kill h1 h2
       have hR1 := h.Oy (x := .dead) (δ := fun _ => none) hkill h1 h2 (fun _ _ => rfl) (Nat.le_refl _) h.fr (fun s rs l hg => by simp [cS, C.rows] at hg) (fun _ _ hd => absurd rfl hd)
       have key := @fm st.m rows1 q1 i1 f1 .dead x h1 h2
       have hnp : ∀ q rs, ay (bh st.m q1 (bz rows1 i1 f1 .dead)) q = some rs -> ¬ q1 ++ [(i1, f1)] <+: q /\ ∃ rs0, ay st.m q = some rs0 := by
        intro q rs hq
        rcases key q rs hq with ⟨s, _, hg⟩ | ⟨hn, rs0, hg, _⟩
        ·simp [cS, C.rows] at hg
        ·exact ⟨hn, rs0, hg⟩
       have hpn := (hnp p rows h3).1
       have hl1 : nd γ q1 i1 f1 (fun _ => none) p = some l := by rw [bu hpn]; exact hl
       have hap : pk (bh st.m q1 (bz rows1 i1 f1 .dead)) (nd γ q1 i1 f1 fun _ => none) x (fun s => γ (q1 ++ (i1, f1) :: s)) := by
        intro q rs l1 s rs' l2 hq hg hl1 hg' hl2 hb
        obtain ⟨hn, rs0, hg0⟩ := hnp q rs hg
        rw [bu hn] at hl1
        have := h.mem.inj q (q1 ++ (i1, f1) :: s) rs0 rs' l1 l2 hq (by simp) hg0 (by rw [ca h1 h2]; exact hg') hl1 hl2 hb
        exact hn ⟨s, by rw [this]; simp⟩
       have hput : bf w S (bh (bh st.m q1 (bz rows1 i1 f1 .dead)) p (bz rows i f x)) (nd (nd γ q1 i1 f1 fun _ => none) p i f fun s => γ (q1 ++ (i1, f1) :: s)) :=
        hkill.rC hdet hap h3 h4 (fun _ _ _ _ _ _ cells _ _ hh => ⟨cells, hh, rfl⟩) (fun _ _ _ _ _ _ _ _ _ _ _ => rfl) (fun l' _ hl' => by rw [hl1] at hl'; cases hl'; exact hcell) (fun _ _ => rfl)
       refine ⟨_, hR1.Oy (q := p) hput h3 h4 (fun _ _ => rfl) (Nat.le_refl _) h.fr (fun s rs l' hg hl' => ?_) (fun hp0 => absurd hp0 hp), fun t v htv => ?_, ?_⟩
       ·exact h.own (q1 ++ (i1, f1) :: s) rs l' (by simp) (by rw [ca h1 h2]; exact hg) hl'
       ·exact au.forget (dB _ _ p i f) (au.forget (dB _ _ q1 i1 f1) htv)
       ·rw [bu (fun hpre => by have := hpre.length_le; simp at this; omega)]
        exact hl1
    ·rw [if_neg hfit] at ha; cases ha
def bo (st : St) (p : Path) (i : Nat) : Nat -> List T1 -> Option St
 | _, [] => some st
 | f, t :: ts => match oR t with
  | none => bo st p i (f + 1) ts
  | some _ => match pF st.m p i f t with
   | none => none
   | some (m', src) => bo { t := (st.t.map (TV.bX (T1.forget src))).map (TV.bX (T1.forget (p ++ [(i, f)]))), m := m' } p i (f + 1)
     (ts.map fun t => (T1.forget src t).forget (p ++ [(i, f)]))
 termination_by _ ts => ts.length
theorem Rel.bo {p : Path} {i : Nat} {l : Loc} (hp : p ≠ []) : ∀ (ts : List T1) (vs : List Value) (f : Nat) (γ : Path -> Option Loc) (st st' : St), Rel B S γ st a w -> cK (au w S γ) ts vs -> γ p = some l ->
  (∀ k v, vs[k]? = some v -> w.cell? ⟨l.b, l.off + i * l.sz + (f + k), none⟩ = some v) -> Mv.bo st p i f ts = some st' -> ∃ γ', Rel B S γ' st' a w /\ γ' p = some l := by
 intro ts
 generalize hn : ts.length = n
 induction n generalizing ts with
 | zero =>
  intro vs f γ st st' hR _ hl _ ha
  have := List.eq_nil_of_length_eq_zero hn
  subst this
  unfold Mv.bo at ha
  cases ha
  exact ⟨γ, hR, hl⟩
 | succ n ih =>
  intro vs f γ st st' hR hall hl hc ha
  cases ts with
  | nil => simp at hn
  | cons t ts =>
   obtain ⟨v, vs, rfl, h1, h2⟩ := hall.dQ
   unfold Mv.bo at ha
   split at ha
   ·exact ih ts (by simpa using hn) vs (f + 1) γ st st' hR h2 hl (fun k v hk => by have := hc (k + 1) v (by simpa using hk); rwa [show f + (k + 1) = f + 1 + k by omega] at this) ha
   ·split at ha
    ·cases ha
    ·rename_i m' src hm
     obtain ⟨γ', g1, g2, g3⟩ := hR.Zb hp h1 hl (by have := hc 0 v rfl; rwa [show l.off + i * l.sz + (f + 0) = l.off + i * l.sz + f by omega] at this) hm
     refine ih _ (by simpa using hn) vs (f + 1) γ' _ st' g1 ?_ g3 (fun k v hk => by have := hc (k + 1) v (by simpa using hk); rwa [show f + (k + 1) = f + 1 + k by omega] at this) ha
     exact h2.ke _ fun t v ht => g2 t v ht
end
end Go.Mv
namespace Go.Mv
open Go.RowKit
def lD (sz : Nat) : T1 -> C
 | .c (.v (.slice none 0 0)) => .sl sz []
 | .c (.v u) => .v u
 | .c (.fn f caps) => .fn f caps
 | .c c => .fz c
 | _ => .dead
def known : T1 -> Bool
 | .unk => false
 | _ => true
def jH : TV -> Option (List T1)
 | .one t => if known t then some [t] else none
 | .agg l => if l.all known then some l else none
 | .tup _ => none
def nh {α : Type} (l : List α) (off : Nat) (vs : List α) : List α := l.take off ++ vs ++ l.drop (off + vs.length)
def Ix (place : Nat -> Option (Nat × Nat)) : List T1 -> List (Nat × List T1) -> Option (List T1)
 | l, [] => some l
 | l, (i, ts) :: rest => match place i with
  | none => none
  | some (off, size) => if ts.length = size /\ off + ts.length <= l.length then Ix place (nh l off ts) rest else none
section
variable {P : Program} {B : da} {S : Nat -> Prop} {γ : Path -> Option Loc} {st : St} {a : Act} {w : World}
theorem tf {t : T1} {x : Value} (hk : known t = true) (ht : au w S γ t x) : plain x = true := by
 cases t with
 | unk => cases hk
 | c c => exact gd.plain ht
 | pl p i f => obtain ⟨l, _, rfl⟩ := ht; rfl
 | so q i f n => rcases ht with ⟨l, _, rfl, _⟩ | ⟨_, _, rfl⟩ <;> rfl
 | sp p lo n => rcases ht with ⟨l, cap, _, rfl, _⟩ | ⟨_, A, cap, rfl⟩ <;> rfl
 | fp row f => obtain ⟨b, off, vals, _, _, _, rfl⟩ := ht; rfl
theorem GD {sz : Nat} {t : T1} {x : Value} (hk : known t = true) (ht : au w S γ t x) : Hdr w S (lD sz t) none x := by
 have hp := tf hk ht
 unfold lD
 split
 ·cases jC (γ := γ) (show aD w S γ (.one (.c (.v (.slice none 0 0)))) x from ht)
  exact ⟨rfl, rfl⟩
 ·rename_i u _
  cases jC (γ := γ) (show aD w S γ (.one (.c (.v u))) x from ht)
  exact ⟨rfl, hp⟩
 ·exact ht
 ·exact ht
 ·exact hp
theorem MC {x : Value} (h : plain x = true) : x.cells = #[x] := by
 cases x <;> first | rfl | cases h
theorem mR {t : TV} {x : Value} {l : List T1} (h : jH t = some l) (ht : aD w S γ t x) : cK (au w S γ) l x.cells.toList /\ ∀ t ∈ l, known t = true := by
 cases t with
 | one t =>
  simp only [jH] at h
  split at h
  ·rename_i hk
   cases h
   rw [MC (tf hk ht)]
   exact ⟨.cons ht .nil, by simpa using hk⟩
  ·cases h
 | agg l' =>
  simp only [jH] at h
  split at h
  ·rename_i hk
   cases h
   obtain ⟨xs, rfl, hxs⟩ := ht
   exact ⟨by simpa [Value.cells] using hxs, fun t ht => List.all_eq_true.1 hk t ht⟩
  ·cases h
 | tup l' => cases h
def bt : List Nat -> List T1 -> List C
 | _, [] => []
 | [], t :: ts => lD 0 t :: bt [] ts
 | sz :: szs, t :: ts => lD sz t :: bt szs ts
theorem dr : ∀ (szs : List Nat) (l : List T1), (bt szs l).length = l.length
 | _, [] => by cases ‹List Nat› <;> rfl
 | [], t :: ts => by simp [bt, dr [] ts]
 | sz :: szs, t :: ts => by simp [bt, dr szs ts]
theorem qe : ∀ {szs : List Nat} {l : List T1} {vs : List Value}, cK (au w S γ) l vs -> (∀ t ∈ l, known t = true) -> cK (fun c v => Hdr w S c none v) (bt szs l) vs
 | szs, [], vs, h, _ => by
  have : vs = [] := List.eq_nil_of_length_eq_zero (by rw [<- h.1]; rfl)
  subst this
  cases szs <;> exact .nil
 | [], t :: ts, vs, h, hk => by
  obtain ⟨v, vs', rfl, h1, h2⟩ := h.dQ
  exact .cons (GD (hk t (by simp)) h1) (qe h2 fun t ht => hk t (by simp [ht]))
 | sz :: szs, t :: ts, vs, h, hk => by
  obtain ⟨v, vs', rfl, h1, h2⟩ := h.dQ
  exact .cons (GD (hk t (by simp)) h1) (qe h2 fun t ht => hk t (by simp [ht]))
theorem Qu (e : TypeId) (cells : Array Value) : (newRow e cells).run P w = .ok ⟨w.heap.size, 0, none⟩ (w.alloc (.cells cells e (0, 0))) := by
 simp [newRow]
theorem Rel.box {d e : Nat} {szs : List Nat} {t : TV} {x : Value} {l : List T1} {c : C} {st' : St} (h : Rel B S γ st a w) (hd : B.np <= d) (hc0 : at2 st.m d 0 = some c) (hl : jH t = some l) (ht : aD w S γ t x)
  (ha : Mv.bo { t := st.t.map (TV.bX (T1.forget [(d, 0)])), m := bz st.m d 0 (.bx (bt szs l)) } [(d, 0)] 0 0 (l.map (T1.forget [(d, 0)])) = some st') :
  ∃ γ', (newVar e x).run P w = .ok ⟨w.heap.size, 0, none⟩ (w.alloc (.cells x.cells e (0, 0))) /\ Rel B S γ' st' a (w.alloc (.cells x.cells e (0, 0))) /\
   au (w.alloc (.cells x.cells e (0, 0))) S γ' (.pl [(d, 0)] 0 0) (.pointer (some ⟨w.heap.size, 0, none⟩)) := by
 obtain ⟨hall, hk⟩ := mR hl ht
 have hlen : l.length = x.cells.size := by simpa using hall.1
 obtain ⟨γ1, hR1, hg1, hk1⟩ := h.BC (x := .bx (bt szs l)) (rows := [bt szs l]) (vals := x.cells.toList) (cells := x.cells) (e := e) (lo := 0) (hi := 0) (cap := 1) (sz := l.length) (d := d)
  (v := .pointer (some ⟨w.heap.size, 0, none⟩)) hd hc0 rfl (by simpa using qe hall hk) (by simp [dr]) (by simp) (fun k u hu => by simpa using hu) (by omega) (fun o _ => by omega) rfl
 have hSw : ∀ b, S b -> (w.alloc (.cells x.cells e (0, 0))).heap[b]? = w.heap[b]? := fun b hb => cH w _ (h.lt b hb)
 have hvals : cK (au (w.alloc (.cells x.cells e (0, 0))) S γ1) (l.map (T1.forget [(d, 0)])) x.cells.toList := hall.ke _ fun t v ht => hk1 t v ht
 obtain ⟨γ2, hR2, hg2⟩ := Rel.bo (a := a) (i := 0) (p := [(d, 0)]) (l := ⟨w.heap.size, 0, 1, l.length⟩) (by simp) (l.map (T1.forget [(d, 0)])) x.cells.toList 0 γ1 _ st' hR1 hvals hg1
  (fun k v hk => by simp only [World.cell?, jr]; simpa using hk) ha
 exact ⟨γ2, by simp [newVar, Qu], hR2, _, hg2, by simp⟩
theorem vy {α : Type} {l vs : List α} {off : Nat} (h : off + vs.length <= l.length) : (nh l off vs).length = l.length := by
 simp [nh]; omega
theorem xa {α : Type} {l vs : List α} {off : Nat} (h : off + vs.length <= l.length) (k : Nat) : (nh l off vs)[k]? = if off <= k /\ k < off + vs.length then vs[k - off]? else l[k]? := by
 unfold nh
 by_cases h1 : k < off
 ·rw [if_neg (by omega), List.append_assoc, List.getElem?_append_left (by simp; omega), List.getElem?_take_of_lt h1]
 ·by_cases h2 : k < off + vs.length
  ·rw [if_pos (by omega), List.getElem?_append_left (by simp; omega), List.getElem?_append_right (by simp; omega)]
   congr 1
   simp
   omega
  ·rw [if_neg (by omega), List.getElem?_append_right (by simp; omega), List.getElem?_drop]
   congr 1
   simp
   omega
theorem Fu (off : Nat) : ∀ (vs : List Value) (n : Nat) (cs : Array Value) (k : Nat), off + n + vs.length <= cs.size ->
  ((vs.zipIdx n).foldl (fun cs (p : Value × Nat) => cs.setIfInBounds (off + p.2) p.1) cs).size = cs.size /\
  ((vs.zipIdx n).foldl (fun cs (p : Value × Nat) => cs.setIfInBounds (off + p.2) p.1) cs)[k]? = if off + n <= k /\ k < off + n + vs.length then vs[k - (off + n)]? else cs[k]? := by
 intro vs
 induction vs with
 | nil => intro n cs k _; simp; intro h1 h2; omega
 | cons v vs ih =>
  intro n cs k hle
  simp only [List.zipIdx_cons, List.foldl_cons]
  have h0 := ih (n + 1) (cs.setIfInBounds (off + n) v) k (by simp at hle ⊢; omega)
  refine ⟨by rw [h0.1]; simp, ?_⟩
  rw [h0.2]
  by_cases hk : k = off + n
  ·subst hk
   rw [if_neg (by omega), if_pos (by simp), Nat.sub_self]
   simp only [List.getElem?_cons_zero]
   rw [Array.getElem?_setIfInBounds_self_of_lt (by simp at hle; omega)]
  ·by_cases hr : off + n <= k /\ k < off + n + (vs.length + 1)
   ·rw [if_pos (by omega), if_pos (by simpa using hr)]
    rw [show k - (off + n) = (k - (off + (n + 1))) + 1 by omega]
    simp
   ·rw [if_neg (by omega), if_neg (by simpa using hr), Array.getElem?_setIfInBounds_ne (by omega)]
theorem cK.nh {l ts : List T1} {xs vs : List Value} {off : Nat} (h : cK (au w S γ) l xs) (k : cK (au w S γ) ts vs) (hle : off + ts.length <= l.length) :
  cK (au w S γ) (Mv.nh l off ts) (Mv.nh xs off vs) := by
 have hle' : off + vs.length <= xs.length := by rw [<- h.1, <- k.1]; exact hle
 refine ⟨by rw [vy hle, vy hle', h.1], fun j t v ht hv => ?_⟩
 rw [xa hle] at ht
 rw [xa hle', <- k.1] at hv
 split at ht
 ·rename_i hc
  rw [if_pos hc] at hv
  exact k.2 _ t v ht hv
 ·rename_i hc
  rw [if_neg hc] at hv
  exact h.2 j t v ht hv
theorem Iy {place : Nat -> Option (Nat × Nat)} : ∀ (parts : List (Nat × Value)) (tparts : List (Nat × List T1)) (l : List T1) (cells : Array Value) (l' : List T1),
  cK (fun (p : Nat × List T1) (q : Nat × Value) => p.1 = q.1 /\ cK (au w S γ) p.2 q.2.cells.toList) tparts parts -> cK (au w S γ) l cells.toList -> Ix place l tparts = some l' ->
  ∃ cells', Instr.fill place cells parts = some cells' /\ cK (au w S γ) l' cells'.toList := by
 intro parts
 induction parts with
 | nil =>
  intro tparts l cells l' hp hl h
  have : tparts = [] := List.eq_nil_of_length_eq_zero (by simpa using hp.1)
  subst this
  cases h
  exact ⟨cells, rfl, hl⟩
 | cons q parts ih =>
  intro tparts l cells l' hp hl h
  cases tparts with
  | nil => have := hp.1; simp at this
  | cons p tparts =>
   obtain ⟨i, ts⟩ := p
   obtain ⟨i', v⟩ := q
   obtain ⟨b, bs, he, ⟨h1, h2⟩, h3⟩ := hp.dQ
   cases he
   simp only at h1 h2
   subst h1
   simp only [Ix] at h
   cases hpl : place i with
   | none => rw [hpl] at h; cases h
   | some os =>
    obtain ⟨off, size⟩ := os
    rw [hpl] at h
    simp only at h
    split at h
    ·rename_i hc
     have e1 : v.cells.size = ts.length := by rw [<- Array.length_toList, <- h2.1]
     have e2 : cells.size = l.length := by rw [<- Array.length_toList, <- hl.1]
     have hg := fun k => (Fu off v.cells.toList 0 cells k (by rw [Array.length_toList, e1, e2]; simpa using hc.2))
     have hcells : (v.cells.zipIdx.foldl (fun cs (p : Value × Nat) => cs.setIfInBounds (off + p.2) p.1) cells).toList = Mv.nh cells.toList off v.cells.toList := by
      apply List.ext_getElem?
      intro k
      rw [xa (by rw [Array.length_toList, Array.length_toList, e1, e2]; exact hc.2)]
      have := (hg k).2
      simp only [Nat.add_zero] at this
      rw [Array.getElem?_toList, <- Array.foldl_toList]
      have hz : v.cells.zipIdx.toList = v.cells.toList.zipIdx 0 := by simp
      rw [hz, this]
      simp
     have := ih tparts (Mv.nh l off ts) (v.cells.zipIdx.foldl (fun cs (p : Value × Nat) => cs.setIfInBounds (off + p.2) p.1) cells) l' h3 (by rw [hcells]; exact hl.nh h2 hc.2) h
     obtain ⟨cells', g1, g2⟩ := this
     refine ⟨cells', ?_, g2⟩
     simp only [Instr.fill, hpl]
     rw [if_neg (by rw [e1, e2]; simp; omega)]
     exact g1
    ·cases h
end
end Go.Mv
namespace Go.Mv
open Go.RowKit
def Yd (np : Nat) (st : St) (d : Nat) (szs : List Nat) (l : List T1) : Option (TV × St) :=
 if np <= d /\ (at2 st.m d 0).isSome = true then
  (bo { t := st.t.map (TV.bX (T1.forget [(d, 0)])), m := bz st.m d 0 (.bx (bt szs l)) } [(d, 0)] 0 0 (l.map (T1.forget [(d, 0)]))).map fun st' => (.one (.pl [(d, 0)] 0 0), st')
 else none
def Xo (np : Nat) (st : St) (d sz : Nat) (szs : List Nat) (rows : List (List T1)) : Option (TV × St) :=
 if np <= d /\ (at2 st.m d 0).isSome = true /\ (rows.length = 1 \/ rows.all (fun r => r.all fun t => (oR t).isNone) = true) then
  (match rows with
   | [r] => bo { t := st.t.map (TV.bX (T1.forget [(d, 0)])), m := bz st.m d 0 (.sl sz [bt szs r]) } [(d, 0)] 0 0 (r.map (T1.forget [(d, 0)]))
   | rows => some { t := st.t.map (TV.bX (T1.forget [(d, 0)])), m := bz st.m d 0 (.sl sz (List.map (bt szs) rows)) }).map
  fun st' => (.one (.so [] d 0 rows.length), st')
 else none
def Es (st : St) : List (Nat × Operand) -> Option (List (Nat × List T1))
 | [] => some []
 | (i, x) :: ps => match jH (evT st x), Es st ps with
  | some l, some r => some ((i, l) :: r)
  | _, _ => none
def placeOf (Ty : Types) (fs : List (Nat × TypeId)) (i : Nat) : Option (Nat × Nat) :=
 match fs[i]? with
 | none => none
 | some (off, ft) => (Ty ft).map fun fi => (off, fi.size)
def bF (s : ByteArray) : Rows := s.data.toList.map fun b => [.v (.int .u8 b.toNat)]
def yA : Rows -> Option (List Int)
 | [] => some []
 | [.v (.int .u8 n)] :: r => (yA r).map (n :: ·)
 | _ => none
def XK (Ty : Types) (e : TypeId) : Bool :=
 match Ty e with
 | some i => match i.k with
  | .int .u8 => true
  | _ => false
 | none => false
def rowsOf (m : Rows) : TV -> Option (Bool × Rows)
 | .one (.c (.sl _ rows)) => some (true, rows)
 | .one (.c (.v (.slice none 0 0))) => some (true, [])
 | .one (.so q i f n) => match ay m (q ++ [(i, f)]) with
  | some rows => if rows.length = n then some (false, rows) else none
  | none => none
 | .one (.sp p lo n) => if p.isEmpty then none else match ay m p with
  | some rows => if lo + n <= rows.length then some (false, (rows.drop lo).take n) else none
  | none => none
 | _ => none
def Ce (Ty : Types) (np : Nat) (st : St) (d : Nat) : Op -> Option (TV × St)
 | .alloc e => match Ty e with
  | none => none
  | some i => match jH (yh i.zero) with
   | none => none
   | some l => Yd np st d i.szs l
 | .box e x => match jH (evT st x) with
  | none => none
  | some l => Yd np st d (((Ty e).map (·.szs)).getD []) l
 | .build t parts => match Ty t with
  | none => none
  | some i => match i.k with
   | .struct fs => match jH (yh i.zero), Es st parts.toList with
    | some z, some ps => if fs.all (fun f => (Ty f.2).isSome) = false then none else (Ix (placeOf Ty fs) z ps).map fun l => (.agg l, st)
    | _, _ => none
   | _ => none
 | .buildSlice t len parts => match Ty t with
  | none => none
  | some i => match i.k with
   | .slice e => match Ty e with
    | none => none
    | some ei => match Es st parts.toList with
     | none => none
     | some ps => if ps.map (·.1) = List.range len /\ ps.all (fun p => p.2.length == ei.size) = true /\ len * ei.size <= 16777216 then Xo np st d ei.size ei.szs (ps.map (·.2)) else none
   | _ => none
 | .makeSlice t n c => match Ty t with
  | none => none
  | some i => match i.k with
   | .slice e => match Ty e with
    | none => none
    | some ei => match KQ (evT st n), KQ (evT st c), jH (yh ei.zero) with
     | some n, some c, some z => if n = c /\ 0 <= n /\ 0 < ei.bytes /\ n.toNat * ei.bytes <= 140737488355328 /\ z.length = ei.size /\ np <= d /\ (at2 st.m d 0).isSome = true then
       some (.one (.so [] d 0 n.toNat), { t := st.t.map (TV.bX (T1.forget [(d, 0)])), m := bz st.m d 0 (.sl ei.size (List.replicate n.toNat (bt ei.szs z))) })
      else none
     | _, _, _ => none
   | _ => none
 | .convert src dst x => match Ty src, Ty dst with
  | some i, some j => match i.k, j.k with
   | .string, .slice e => if XK Ty e then match TA (evT st x) with
     | none => none
     | some s => if np <= d /\ (at2 st.m d 0).isSome = true /\ s.size <= 140737488355328 then
       some (.one (.so [] d 0 s.size), { t := st.t.map (TV.bX (T1.forget [(d, 0)])), m := bz st.m d 0 (.sl 1 (bF s)) })
      else none
    else none
   | .slice e, .string => if XK Ty e then match rowsOf st.m (evT st x) with
     | none => none
     | some (_, rows) => (yA rows).map fun ns => (.one (.c (.v (.string (strOfNums ns)))), st)
    else none
   | _, _ => none
  | _, _ => none
 | _ => none
section
variable {P : Program} {Ty : Types} {B : da} {S : Nat -> Prop} {γ : Path -> Option Loc} {st : St} {a : Act} {w : World}
theorem Et (hR : Rel B S γ st a w) : ∀ {ps : List (Nat × Operand)} {r : List (Nat × List T1)}, Es st ps = some r ->
  cK (fun (p : Nat × List T1) (q : Nat × Value) => p.1 = q.1 /\ cK (au w S γ) p.2 q.2.cells.toList) r (ps.map fun p => (p.1, a.eval p.2)) /\ ∀ p ∈ r, ∀ t ∈ p.2, known t = true := by
 intro ps
 induction ps with
 | nil => intro r h; cases h; exact ⟨.nil, by simp⟩
 | cons p ps ih =>
  intro r h
  obtain ⟨i, x⟩ := p
  simp only [Es] at h
  split at h
  ·rename_i l r' h1 h2
   cases h
   obtain ⟨g1, g2⟩ := ih h2
   obtain ⟨g3, g4⟩ := mR h1 (hR.evT x)
   refine ⟨.cons ⟨rfl, g3⟩ g1, fun p hp => ?_⟩
   rcases List.mem_cons.1 hp with rfl | hp
   ·exact g4
   ·exact g2 p hp
  ·cases h
theorem Nz {d e : Nat} {szs : List Nat} {t : TV} {x : Value} {l : List T1} {tv : TV} {st' : St} (h : Rel B S γ st a w) (hl : jH t = some l) (ht : aD w S γ t x) (hb : Yd B.np st d szs l = some (tv, st')) :
  ∃ γ', (newVar e x).run P w = .ok ⟨w.heap.size, 0, none⟩ (w.alloc (.cells x.cells e (0, 0))) /\ Rel B S γ' st' a (w.alloc (.cells x.cells e (0, 0))) /\
   aD (w.alloc (.cells x.cells e (0, 0))) S γ' tv (.pointer (some ⟨w.heap.size, 0, none⟩)) := by
 unfold Yd at hb
 split at hb
 ·rename_i hc
  obtain ⟨hd, hs⟩ := hc
  obtain ⟨c, hc0⟩ := Option.isSome_iff_exists.1 hs
  cases ha : bo { t := st.t.map (TV.bX (T1.forget [(d, 0)])), m := bz st.m d 0 (.bx (bt szs l)) } [(d, 0)] 0 0 (l.map (T1.forget [(d, 0)])) with
  | none => rw [ha] at hb; cases hb
  | some st1 =>
   rw [ha] at hb
   cases hb
   exact h.box hd hc0 hl ht ha
 ·cases hb
theorem Qm : ∀ {rows : Rows} {ns : List Int}, yA rows = some ns -> rows = ns.map fun n => [.v (.int .u8 n)] := by
 intro rows
 induction rows with
 | nil => intro ns h; cases h; rfl
 | cons r rows ih =>
  intro ns h
  unfold yA at h
  split at h
  ·rename_i he; cases he
  ·rename_i n r' he
   cases he
   cases hn : yA rows with
   | none => rw [hn] at h; cases h
   | some ns' => rw [hn] at h; cases h; rw [ih hn]; rfl
  ·cases h
theorem ND {rows : Rows} {sz : Nat} (hs : ∀ r ∈ rows, r.length = sz) {k : Nat} {c : C} (h : rows.flatten[k]? = some c) : 0 < sz /\ at2 rows (k / sz) (k % sz) = some c := by
 have hk : k < rows.flatten.length := (List.getElem?_eq_some_iff.1 h).1
 rw [dK hs] at hk
 have hsz : 0 < sz := Nat.pos_of_ne_zero (fun e => by rw [e, Nat.mul_zero] at hk; omega)
 refine ⟨hsz, ?_⟩
 have hi : k / sz < rows.length := Nat.div_lt_of_lt_mul (by rwa [Nat.mul_comm])
 have hr : rows[k / sz]? = some rows[k / sz] := List.getElem?_eq_getElem hi
 have hf : k % sz < sz := Nat.mod_lt _ hsz
 have := Gt _ rows sz hs (k / sz) hr (k % sz) hf
 rw [show k / sz * sz + k % sz = k by rw [Nat.mul_comm]; exact Nat.div_add_mod k sz, h] at this
 simp only [at2, hr, Option.bind_some]
 exact this.symm
theorem Gq {rows : Rows} {lo n : Nat} {r : List C} (h : r ∈ (rows.drop lo).take n) : r ∈ rows := List.mem_of_mem_drop (List.mem_of_mem_take h)
theorem Fe {rows : Rows} {lo n i f : Nat} {c : C} (h : at2 ((rows.drop lo).take n) i f = some c) : at2 rows (lo + i) f = some c := by
 unfold at2 at h ⊢
 cases hr : ((rows.drop lo).take n)[i]? with
 | none => rw [hr] at h; cases h
 | some r =>
  rw [hr] at h
  have hi : i < n := by have := (List.getElem?_eq_some_iff.1 hr).1; simp at this; omega
  rw [List.getElem?_take_of_lt hi, List.getElem?_drop] at hr
  rw [hr]
  exact h
theorem GF (hR : Rel B S γ st a w) {p : Path} {rows : Rows} {l : Loc} (hp : p ≠ []) (hr : ay st.m p = some rows) (hl : γ p = some l) (lo n : Nat) :
  ∃ vals : List Value, cK (fun c v => ∃ l, Hdr w S c l v) ((rows.drop lo).take n).flatten vals /\ (∀ r ∈ (rows.drop lo).take n, r.length = l.sz) /\
   ∀ (k : Nat) (v : Value), vals[k]? = some v -> w.cell? ⟨l.b, l.off + lo * l.sz + k, none⟩ = some v := by
 have hloc := hR.mem.loc p rows hp hr
 rw [hl] at hloc
 have hs : ∀ r ∈ (rows.drop lo).take n, r.length = l.sz := fun r hm => hloc.2.2.1 r (Gq hm)
 have hcell : ∀ (k : Nat) (c : C), ((rows.drop lo).take n).flatten[k]? = some c -> ∃ v, w.cell? ⟨l.b, l.off + lo * l.sz + k, none⟩ = some v /\ ∃ l', Hdr w S c l' v := by
  intro k c hk
  obtain ⟨hsz, h2⟩ := ND hs hk
  obtain ⟨v, h3, h4⟩ := hR.mem.cell p rows l _ _ c hp hr hl (Fe h2)
  refine ⟨v, ?_, _, h4⟩
  rw [<- h3]
  congr 2
  rw [Nat.add_mul, Nat.add_assoc, Nat.add_assoc, Nat.add_assoc]
  congr 2
  rw [Nat.mul_comm]
  exact (Nat.div_add_mod k l.sz).symm
 refine ⟨(List.range ((rows.drop lo).take n).flatten.length).map fun k => (w.cell? ⟨l.b, l.off + lo * l.sz + k, none⟩).getD undef, ⟨by simp, fun k c v hc hv => ?_⟩, hs, fun k v hv => ?_⟩
 ·obtain ⟨v', h1, h2⟩ := hcell k c hc
  have hk := (List.getElem?_eq_some_iff.1 hc).1
  rw [List.getElem?_map, List.getElem?_range hk, Option.map_some, h1] at hv
  cases hv
  exact h2
 ·have hk : k < ((rows.drop lo).take n).flatten.length := by have := (List.getElem?_eq_some_iff.1 hv).1; simpa using this
  obtain ⟨v', h1, h2⟩ := hcell k _ (List.getElem?_eq_getElem hk)
  rw [List.getElem?_map, List.getElem?_range hk, Option.map_some, h1] at hv
  cases hv
  exact h1
theorem Ey (hR : Rel B S γ st a w) {t : TV} {x : Value} {rows : Rows} {fz : Bool} (h : rowsOf st.m t = some (fz, rows)) (ht : aD w S γ t x) :
  ∃ A cap vals, x = .slice A rows.length cap /\ cK (fun c v => if fz then gd w S c v else ∃ l, Hdr w S c l v) rows.flatten vals /\
   (rows = [] \/ ∃ b o sz, A = some ⟨b, o, none⟩ /\ (∀ r ∈ rows, r.length = sz) /\ ∀ (k : Nat) (v : Value), vals[k]? = some v -> w.cell? ⟨b, o + k, none⟩ = some v) := by
 unfold rowsOf at h
 split at h
 ·cases h
  cases ht with
  | nil => exact ⟨_, _, [], rfl, .nil, .inl rfl⟩
  | sl hb hs hv hc hcap =>
   rename_i sz b off cap vals
   exact ⟨_, _, vals, rfl, ⟨hv.length, fun k c v hkc hkv => by obtain ⟨v', h1, h2⟩ := hv.get hkc; rw [hkv] at h1; cases h1; exact h2⟩, .inr ⟨b, off, sz, rfl, hs, hc⟩⟩
 ·cases h
  cases jC ht
  exact ⟨_, _, [], rfl, .nil, .inl rfl⟩
 ·rename_i q i f n
  split at h
  ·rename_i rs hr
   split at h
   ·rename_i hn
    cases h
    subst hn
    rcases ht with ⟨l, hl, rfl, _⟩ | ⟨hl, hz, rfl⟩
    ·obtain ⟨vals, h1, h2, h3⟩ := GF hR (by simp) hr hl 0 rows.length
     simp only [List.drop_zero, List.take_length, Nat.zero_mul, Nat.add_zero] at h1 h2 h3
     exact ⟨_, _, vals, rfl, by simpa using h1, .inr ⟨_, _, _, rfl, h2, h3⟩⟩
    ·have := List.eq_nil_of_length_eq_zero hz
     subst this
     exact ⟨_, _, [], rfl, .nil, .inl rfl⟩
   ·cases h
  ·cases h
 ·rename_i p lo n
  split at h
  ·cases h
  ·rename_i hp
   split at h
   ·rename_i rs hr
    split at h
    ·rename_i hle
     cases h
     have hlen : ((rs.drop lo).take n).length = n := by simp; omega
     rcases ht with ⟨l, cap, hl, rfl, _⟩ | ⟨rfl, A, cap, rfl⟩
     ·obtain ⟨vals, h1, h2, h3⟩ := GF hR (by rintro rfl; simp at hp) hr hl lo n
      exact ⟨_, _, vals, by rw [hlen], by simpa using h1, .inr ⟨_, _, _, rfl, h2, h3⟩⟩
     ·exact ⟨A, cap, [], by rw [hlen], by simp; exact .nil, .inl (by simp)⟩
    ·cases h
   ·cases h
 ·cases h
end
end Go.Mv
namespace Go.Mv
open Go.RowKit
section
variable {P : Program} {Ty : Types} {B : da} {S : Nat -> Prop} {γ : Path -> Option Loc} {st : St} {a : Act} {w : World}
theorem Rel.drew (h : Rel B S γ st a w) : Rel B S γ st a w.drew :=
 ⟨h.sS, h.lt, h.mem.frame (w' := w.drew) (fun _ hb => hb) (fun _ _ => rfl) (fun q rows l hq hr hl => ⟨rfl, by have := h.mem.loc q rows hq hr; rw [hl] at this; exact this.1⟩),
  fun k t hk => aD.imp (w := w) (w' := w.drew) (fun _ _ ht => au.frame (w := w) (w' := w.drew) (fun _ hb => hb) (fun _ _ => rfl) ht) (h.tv k t hk), h.size, h.msize, h.defers, h.own, h.fix, h.fr.drew _⟩
theorem QN {szs : List Nat} {z : Value} {l : List T1} (h : jH (yh z) = some l) : l.length = z.cells.size /\ cK (fun c v => Hdr w S c none v) (bt szs l) z.cells.toList := by
 obtain ⟨h1, h2⟩ := mR h (re w S (fun _ => none) z)
 exact ⟨by simpa using h1.1, qe h1 h2⟩
theorem GL {zs : Array Value} {n : Nat} (hz : 0 < zs.size) (k : Nat) (hk : k < n * zs.size) : ((Array.range (n * zs.size)).map (zs[· % zs.size]!))[k]? = zs[k % zs.size]? := by
 have : k % zs.size < zs.size := Nat.mod_lt _ hz
 simp [hk, this]
theorem Dw {row : List C} {n k : Nat} {c : C} (h : (List.replicate n row).flatten[k]? = some c) : 0 < row.length /\ row[k % row.length]? = some c := by
 have hs : ∀ r ∈ List.replicate n row, r.length = row.length := fun r hr => by rw [(List.mem_replicate.1 hr).2]
 obtain ⟨h1, h2⟩ := ND hs h
 refine ⟨h1, ?_⟩
 unfold at2 at h2
 cases hr : (List.replicate n row)[k / row.length]? with
 | none => rw [hr] at h2; cases h2
 | some r =>
  rw [hr] at h2
  have := (List.mem_replicate.1 (List.mem_of_getElem? hr)).2
  subst this
  exact h2
theorem IX {e : TypeId} (hTy : lT P Ty) (h : XK Ty e = true) : P.underlying e = some (.int .u8) := by
 unfold XK at h
 split at h
 ·rename_i i hi
  split at h
  ·rename_i hk
   have := (hTy _ _ hi).1
   rw [hk] at this
   exact this
  ·cases h
 ·cases h
theorem Fi (w : World) (e : TypeId) (s : ByteArray) : Lib.bytesWorld w e s = w.drew.alloc (.cells (Lib.bytesCells w e s) e ((Lib.bytesCells w e s).size, (Lib.bytesCells w e s).size + 1)) := by
 simp only [Lib.bytesWorld, World.freeze, World.alloc, World.drew, Nat.one_ne_zero, if_false]
 congr 1
 apply Array.ext_getElem?
 intro i
 rw [Array.getElem?_modify]
 by_cases hi : w.heap.size = i
 ·subst hi
  rw [if_pos rfl, Array.getElem?_push_size, Array.getElem?_push_size]
  simp
 ·rw [if_neg hi]
  rw [Array.getElem?_push, Array.getElem?_push]
  rw [if_neg (fun h => hi h.symm), if_neg (fun h => hi h.symm)]
theorem Mu (hTy : lT P Ty) : ∀ (fields : List Field), (∀ f ∈ fields, (Ty f.type).isSome = true) ->
  fields.mapM (fun f => (P.info? f.type).map fun i => (f.offset, i.size)) = some (fields.map fun f => (f.offset, ((Ty f.type).map (·.size)).getD 0)) := by
 intro fields
 induction fields with
 | nil => intro _; rfl
 | cons f fields ih =>
  intro h
  obtain ⟨fi, hfi⟩ := Option.isSome_iff_exists.1 (h f (by simp))
  obtain ⟨_, ⟨inf, h1, _, h3, _⟩, _⟩ := hTy _ _ hfi
  simp [List.mapM_cons, ih fun g hg => h g (by simp [hg]), h1, hfi, h3]
theorem Pr {size : Nat} : ∀ (ps : List (Nat × List T1)) (k : Nat) (pre post : List T1), pre.length = k * size -> (∀ p ∈ ps, p.2.length = size) -> ps.map (·.1) = List.range' k ps.length -> post.length = ps.length * size ->
  Ix (fun i => some (i * size, size)) (pre ++ post) ps = some (pre ++ (ps.map (·.2)).flatten) := by
 intro ps
 induction ps with
 | nil =>
  intro k pre post _ _ _ hpost
  have : post = [] := List.eq_nil_of_length_eq_zero (by simpa using hpost)
  subst this
  simp [Ix]
 | cons p ps ih =>
  intro k pre post hpre hs hr hpost
  obtain ⟨i, ts⟩ := p
  have hts : ts.length = size := hs (i, ts) (by simp)
  simp only [List.map_cons, List.length_cons, List.range'_succ, List.cons.injEq] at hr
  obtain ⟨rfl, hr⟩ := hr
  simp only [Ix]
  have hpl : post.length = size + ps.length * size := by rw [hpost, List.length_cons, Nat.succ_mul, Nat.add_comm]
  rw [if_pos ⟨hts, by rw [List.length_append, hpre, hts]; omega⟩]
  have hsp : nh (pre ++ post) (i * size) ts = (pre ++ ts) ++ post.drop size := by
   unfold nh
   rw [<- hpre, List.take_left, hts, List.drop_append, List.drop_eq_nil_of_le (by omega)]
   simp
  rw [hsp, ih (i + 1) (pre ++ ts) (post.drop size) (by rw [List.length_append, hpre, hts, Nat.succ_mul]) (fun p hp => hs p (by simp [hp])) hr (by rw [List.length_drop, hpl]; omega)]
  simp
theorem Ft {α : Type} {rows : List (List α)} {sz : Nat} (hs : ∀ r ∈ rows, r.length = sz) : rows.flatten.length = rows.length * sz := by
 induction rows with
 | nil => simp
 | cons r rows ih => simp [ih (fun r' h' => hs r' (by simp [h'])), hs r (by simp), Nat.succ_mul]; omega
theorem BQ {t e : TypeId} {ei : jj} (hu : P.underlying t = some (.slice e)) (he : ei.OK P e) {len : Nat} {parts : Array (Nat × Value)} {cells : Array Value} (hsmall : len * ei.size <= 16777216)
  (h : Instr.fill (fun i => some (i * ei.size, ei.size)) ((Array.range (len * ei.size)).map (ei.zero.cells[· % ei.zero.cells.size]!)) parts.toList = some cells) :
  (Instr.buildSlice t len parts).run P w = .ok (.slice (some ⟨w.heap.size, 0, none⟩) len len) (w.alloc (.cells cells e)) := by
 obtain ⟨_, ⟨inf, g1, g2, g3, g4⟩, _⟩ := he
 rw [<- g3] at hsmall h
 by_cases h0 : len * inf.size = 0
 ·rw [h0] at h
  simp only [Array.range_zero', Array.map_empty] at h
  simp [Instr.buildSlice, run_underlying hu, sizeOf, typeInfo, g1, h0, show Array.range 0 = #[] from rfl, h, newRow]
 ·exact run_buildSlice w t e len parts cells inf ei.zero hu g1 g2 (by omega) h0 h
theorem Kh {szs : List Nat} : ∀ {rows : List (List T1)} {vs : List Value}, cK (au w S γ) rows.flatten vs -> (∀ t ∈ rows.flatten, known t = true) ->
  cK (fun c v => Hdr w S c none v) (rows.map (bt szs)).flatten vs
 | [], vs, h, _ => by
  have : vs = [] := List.eq_nil_of_length_eq_zero (by rw [<- h.1]; rfl)
  subst this
  exact .nil
 | r :: rows, vs, h, hk => by
  have hs : vs = vs.take r.length ++ vs.drop r.length := (List.take_append_drop _ _).symm
  have hlen : r.length <= vs.length := by rw [<- h.1]; simp
  have h1 : cK (au w S γ) r (vs.take r.length) := ⟨by simp; omega, fun k t v ht hv => by
   have hk' := (List.getElem?_eq_some_iff.1 ht).1
   rw [List.getElem?_take_of_lt hk'] at hv
   exact h.2 k t v (by rw [List.flatten_cons, List.getElem?_append_left hk']; exact ht) hv⟩
  have h2 : cK (au w S γ) rows.flatten (vs.drop r.length) := ⟨by have := h.1; simp at this ⊢; omega, fun k t v ht hv => by
   rw [List.getElem?_drop] at hv
   exact h.2 (r.length + k) t v (by rw [List.flatten_cons, List.getElem?_append_right (by omega), show r.length + k - r.length = k by omega]; exact ht) hv⟩
  have g1 := qe (szs := szs) h1 (fun t ht => hk t (by simp [ht]))
  have g2 := Kh (szs := szs) h2 (fun t ht => hk t (by
   rw [List.flatten_cons]
   exact List.mem_append_right _ ht))
  rw [hs]
  simp only [List.map_cons, List.flatten_cons]
  refine ⟨by simp only [List.length_append]; rw [g1.1, g2.1], fun k c v hc hv => ?_⟩
  by_cases hk' : k < (bt szs r).length
  ·rw [List.getElem?_append_left hk'] at hc
   rw [List.getElem?_append_left (by rw [<- g1.1]; exact hk')] at hv
   exact g1.2 k c v hc hv
  ·rw [List.getElem?_append_right (by omega)] at hc
   rw [List.getElem?_append_right (by rw [<- g1.1]; omega), <- g1.1] at hv
   exact g2.2 _ c v hc hv
theorem ku (w : World) (o : Obj) : sJ w (w.alloc o) := ⟨by simp, fun _ hb => cH w o hb⟩
theorem Kx (hTy : lT P Ty) (hR : Rel B S γ st a w) {o : Oper} {d : Nat} {tv : TV} {st' : St} (h : Ce Ty B.np st d o.op = some (tv, st')) :
  ∃ v w' γ', (execOp a.eval o).run P w = .ok (.value v) w' /\ Rel B S γ' st' a w' /\ aD w' S γ' tv v /\ sJ w w' := by
 unfold Ce at h
 split at h
 ·rename_i e ho
  split at h
  ·cases h
  ·rename_i i hi
   split at h
   ·cases h
   ·rename_i l hl
    obtain ⟨γ', h1, h2, h3⟩ := Nz (P := P) (e := e) hR hl (re w S γ i.zero) h
    exact ⟨_, _, γ', by simp [execOp, ho, Instr.alloc, vm (hTy _ _ hi), h1], h2, h3, ku _ _⟩
 ·rename_i e x ho
  split at h
  ·cases h
  ·rename_i l hl
   obtain ⟨γ', h1, h2, h3⟩ := Nz (P := P) (e := e) hR hl (hR.evT x) h
   exact ⟨_, _, γ', by simp [execOp, ho, Instr.box, h1], h2, h3, ku _ _⟩
 ·rename_i t parts ho
  split at h
  ·cases h
  ·rename_i i hi
   split at h
   ·rename_i fs hk
    split at h
    ·rename_i z ps hz hps
     have hi' := hTy _ _ hi
     have hu := hi'.1
     rw [hk] at hu
     obtain ⟨fields, hu, hfs⟩ := hu
     obtain ⟨_, ⟨inf, g1, g2, _⟩, _⟩ := hi'
     split at h
     ·cases h
     ·rename_i hall
      have hall' : ∀ f ∈ fields.toList, (Ty f.type).isSome = true := fun f hf => by
       simp only [Bool.not_eq_false] at hall
       exact List.all_eq_true.1 hall (f.offset, f.type) (by rw [<- hfs]; exact List.mem_map.2 ⟨f, hf, rfl⟩)
      cases hf : Ix (placeOf Ty fs) z ps with
      | none => rw [hf] at h; cases h
      | some l =>
       rw [hf] at h
       cases h
       have hpl : placeOf Ty fs = fun i => ((fields.toList.map fun f => (f.offset, ((Ty f.type).map (·.size)).getD 0)).toArray[i]?) := by
        funext k
        unfold placeOf
        rw [<- hfs]
        simp only [List.getElem?_toArray, List.getElem?_map]
        cases hk' : fields.toList[k]? with
        | none => rfl
        | some f =>
         obtain ⟨fi, hfi⟩ := Option.isSome_iff_exists.1 (hall' f (List.mem_of_getElem? hk'))
         simp [hfi]
       obtain ⟨k1, k2⟩ := Et hR hps
       obtain ⟨z1, _⟩ := mR hz (re w S γ i.zero)
       obtain ⟨cells', f1, f2⟩ := Iy (parts.toList.map fun p => (p.1, a.eval p.2)) ps z i.zero.cells l k1 z1 hf
       refine ⟨.agg cells', w, γ, ?_, hR, ⟨cells'.toList, by simp, f2⟩, sJ.refl w⟩
       have hb : P.built t (parts.map fun (i, x) => (i, a.eval x)).toList = some cells' := by
        rw [hpl] at f1
        simp only [Program.built, g1, hu, g2, Mu hTy _ hall']
        simpa using f1
       simp [execOp, ho, run_build w t _ cells' hb]
    ·cases h
   ·cases h
 ·rename_i t len parts ho
  split at h
  ·cases h
  ·rename_i i hi
   split at h
   ·rename_i e hk
    split at h
    ·cases h
    ·rename_i ei hei
     split at h
     ·cases h
     ·rename_i ps hps
      split at h
      ·rename_i hcond
       obtain ⟨hidx, hall, hsmall⟩ := hcond
       have hi' := (hTy _ _ hi).1
       rw [hk] at hi'
       have hu : P.underlying t = some (.slice e) := hi'
       have hei' := hTy _ _ hei
       obtain ⟨k1, k2⟩ := Et hR hps
       have hlen : ps.length = len := by have := congrArg List.length hidx; simpa using this
       have hsz : ∀ p ∈ ps, p.2.length = ei.size := fun p hp => by simpa using List.all_eq_true.1 hall p hp
       have hfill := Pr (size := ei.size) ps 0 [] (List.replicate (len * ei.size) .unk) (by simp) hsz (by rw [hidx, List.range_eq_range', hlen]) (by simp [hlen])
       simp only [List.nil_append] at hfill
       obtain ⟨cells', f1, f2⟩ := Iy (w := w) (S := S) (γ := γ) (parts.toList.map fun p => (p.1, a.eval p.2)) ps (List.replicate (len * ei.size) .unk)
        ((Array.range (len * ei.size)).map (ei.zero.cells[· % ei.zero.cells.size]!)) _ k1
        ⟨by simp, fun k t v ht _ => by rw [(List.mem_replicate.1 (List.mem_of_getElem? ht)).2]; trivial⟩ hfill
       have hrun := BQ (P := P) (w := w) (len := len) (parts := parts.map fun (i, x) => (i, a.eval x)) (cells := cells') hu hei' hsmall (by simpa using f1)
       have hkn : ∀ t ∈ (ps.map (·.2)).flatten, known t = true := by
        intro t ht
        obtain ⟨r, hr, htr⟩ := List.mem_flatten.1 ht
        obtain ⟨p, hp, rfl⟩ := List.mem_map.1 hr
        exact k2 p hp t htr
       unfold Xo at h
       split at h
       ·rename_i hc
        obtain ⟨hd, hso, hshape⟩ := hc
        obtain ⟨c0, hc0⟩ := Option.isSome_iff_exists.1 hso
        have hrowlen : ∀ r ∈ (ps.map (·.2)).map (bt ei.szs), r.length = ei.size := by
         intro r hr
         obtain ⟨r', hr', rfl⟩ := List.mem_map.1 hr
         obtain ⟨p, hp, rfl⟩ := List.mem_map.1 hr'
         rw [dr]
         exact hsz p hp
        have hown : cK (fun c v => Hdr w S c none v) ((ps.map (·.2)).map (bt ei.szs)).flatten cells'.toList := Kh f2 hkn
        have hcsz : cells'.size = len * ei.size := by
         rw [<- Array.length_toList, <- f2.1, Ft (sz := ei.size) (fun r hr => by obtain ⟨p, hp, rfl⟩ := List.mem_map.1 hr; exact hsz p hp), List.length_map, hlen]
        obtain ⟨γ1, r1, r2, r3⟩ := hR.BC (x := .sl ei.size ((ps.map (·.2)).map (bt ei.szs))) (vals := cells'.toList) (cells := cells') (e := e) (lo := 0) (hi := 0) (cap := len) (sz := ei.size) (d := d)
         (v := .slice (some ⟨w.heap.size, 0, none⟩) len len) hd hc0 rfl hown hrowlen (by simp [hlen]) (fun k u hu => by simpa using hu) (by rw [hcsz]; exact Nat.le_refl _)
         (fun o _ => by omega) ⟨by simp [hlen], by simp [hlen], rfl⟩
        have hval : ∀ γ', γ' [(d, 0)] = some ⟨w.heap.size, 0, len, ei.size⟩ -> aD (w.alloc (.cells cells' e)) S γ' (.one (.so [] d 0 (ps.map (·.2)).length)) (.slice (some ⟨w.heap.size, 0, none⟩) len len) :=
         fun γ' hg => .inl ⟨_, hg, by simp [hlen], by simp [hlen]⟩
        have hexec : (execOp a.eval o).run P w = .ok (.value (.slice (some ⟨w.heap.size, 0, none⟩) len len)) (w.alloc (.cells cells' e)) := by
         simp only [execOp, ho, Sem.run_bind]
         rw [hrun]
         rfl
        split at h
        ·rename_i r hrs
         cases ha : bo { t := st.t.map (TV.bX (T1.forget [(d, 0)])), m := bz st.m d 0 (.sl ei.size [bt ei.szs r]) } [(d, 0)] 0 0 (r.map (T1.forget [(d, 0)])) with
         | none => rw [ha] at h; cases h
         | some st1 =>
          rw [ha] at h
          cases h
          rw [hrs] at r1 f2
          simp only [List.map_cons, List.map_nil, List.flatten_cons, List.flatten_nil, List.append_nil] at r1 f2
          obtain ⟨γ2, q1, q2⟩ := Rel.bo (a := a) (i := 0) (p := [(d, 0)]) (l := ⟨w.heap.size, 0, len, ei.size⟩) (by simp) (r.map (T1.forget [(d, 0)])) cells'.toList 0 γ1 _ _ r1
           (f2.ke _ fun t v ht => r3 t v ht) r2 (fun k v hk => by simp only [World.cell?, jr]; simpa using hk) ha
          exact ⟨_, _, γ2, hexec, q1, hval γ2 q2, ku _ _⟩
        ·cases h
         exact ⟨_, _, γ1, hexec, r1, hval γ1 r2, ku _ _⟩
       ·cases h
      ·cases h
   ·cases h
 ·rename_i t n c ho
  split at h
  ·cases h
  ·rename_i i hi
   split at h
   ·rename_i e hk
    split at h
    ·cases h
    ·rename_i ei hei
     split at h
     ·rename_i n' c' z hn hc hz
      split at h
      ·rename_i hcond
       obtain ⟨rfl, h0, hb, hroom, hzl, hd, hs⟩ := hcond
       cases h
       obtain ⟨c0, hc0⟩ := Option.isSome_iff_exists.1 hs
       obtain ⟨kn, hkn⟩ := iT hn (hR.evT n)
       obtain ⟨kc, hkc⟩ := iT hc (hR.evT c)
       have hi' := (hTy _ _ hi).1
       rw [hk] at hi'
       have hu : P.underlying t = some (.slice e) := hi'
       have hei' := hTy _ _ hei
       obtain ⟨_, ⟨inf, g1, g2, g3, g4⟩, _⟩ := hei'
       have hle : n'.toNat <= 140737488355328 := Nat.le_trans (Nat.le_mul_of_pos_right _ hb) hroom
       have hroom' : n' * (ei.bytes : Int) <= 140737488355328 := by
        have h1 : ((n'.toNat * ei.bytes : Nat) : Int) <= ((140737488355328 : Nat) : Int) := Int.ofNat_le.2 hroom
        rw [Int.natCast_mul, Int.toNat_of_nonneg h0] at h1
        exact h1
       have hrun := run_make (P := P) w t e inf ei.zero hu g1 g2 kn kc n' n' h0 (Int.le_refl _) (by
        rw [g4, Int.mul_comm]
        exact Int.le_trans hroom' (by decide)) (by omega)
       obtain ⟨z1, z2⟩ := QN (w := w) (S := S) (szs := ei.szs) hz
       have hzs : ei.zero.cells.size = ei.size := by rw [<- z1, hzl]
       have hsz : (bt ei.szs z).length = ei.size := by rw [dr, hzl]
       have hrow : ∀ r ∈ List.replicate n'.toNat (bt ei.szs z), r.length = ei.size := fun r hr => by rw [(List.mem_replicate.1 hr).2, hsz]
       have hlen : (List.replicate n'.toNat (bt ei.szs z)).flatten.length = n'.toNat * ei.size := by rw [dK hrow]; simp
       obtain ⟨γ', r1, r2, _⟩ := hR.BC (x := .sl ei.size (List.replicate n'.toNat (bt ei.szs z))) (vals := (madeCells ei.zero.cells (n'.toNat * ei.size)).toList) (cells := madeCells ei.zero.cells (n'.toNat * ei.size))
        (e := e) (lo := 0) (hi := 0) (cap := n'.toNat) (sz := ei.size) (d := d) (v := .slice (some ⟨w.heap.size, 0, none⟩) n'.toNat n'.toNat) hd hc0 rfl
        ⟨by rw [hlen, Array.length_toList, size_madeCells], fun k c v hkc hkv => by
         obtain ⟨hp, hkc'⟩ := Dw hkc
         rw [hsz] at hp hkc'
         have hk' : k < n'.toNat * ei.size := by rw [<- hlen]; exact (List.getElem?_eq_some_iff.1 hkc).1
         obtain ⟨u, h1, h2⟩ := z2.get hkc'
         have := GL (zs := ei.zero.cells) (n := n'.toNat) (by rw [hzs]; exact hp) k (by rw [hzs]; exact hk')
         rw [hzs] at this
         rw [Array.getElem?_toList] at hkv h1
         unfold madeCells at hkv
         rw [hzs, this, h1] at hkv
         cases hkv
         exact h2⟩
        hrow (by simp) (fun k u hu => by simpa using hu) (by rw [size_madeCells]; exact Nat.le_refl _) (fun o _ => by omega) ⟨by simp, by simp, rfl⟩
       refine ⟨_, _, γ', by simp only [execOp, ho, hkn, hkc, Sem.run_bind]; rw [g3] at hrun; rw [hrun]; rfl, r1, .inl ⟨_, r2, rfl, Nat.le_refl _⟩, ku _ _⟩
      ·cases h
     ·cases h
   ·cases h
 ·rename_i src dst x ho
  split at h
  ·rename_i i j hi hj
   have h1 := (hTy _ _ hi).1
   have h2 := (hTy _ _ hj).1
   split at h
   ·rename_i e hk0 hk
    rw [hk0] at h1
    rw [hk] at h2
    split at h
    ·rename_i hu8
     split at h
     ·cases h
     ·rename_i s hs
      split at h
      ·rename_i hcond
       obtain ⟨hd, hso, hbig⟩ := hcond
       cases h
       obtain ⟨c0, hc0⟩ := Option.isSome_iff_exists.1 hso
       have hx := zw hs (hR.evT x)
       have hrun := Lib.run_convert_string_bytes (P := P) w src dst e s (show P.underlying src = _ from h1) (show P.underlying dst = _ from h2) (IX hTy hu8)
       rw [Fi] at hrun
       have hcap : s.size <= grownCap w s.size 0 e := by simp only [grownCap, Question.cut]; omega
       have hcs : (Lib.bytesCells w e s).size = grownCap w s.size 0 e := by
        simp only [Lib.bytesCells, Array.size_append, Array.size_map, Array.size_replicate]
        have : s.data.size = s.size := rfl
        omega
       have hsz : w.drew.heap.size = w.heap.size := rfl
       obtain ⟨γ', r1, r2, _⟩ := hR.drew.BC (x := .sl 1 (bF s)) (vals := s.data.toList.map fun b => Value.int .u8 b.toNat) (cells := Lib.bytesCells w e s)
        (e := e) (lo := (Lib.bytesCells w e s).size) (hi := (Lib.bytesCells w e s).size + 1) (cap := grownCap w s.size 0 e) (sz := 1) (d := d)
        (v := .slice (some ⟨w.heap.size, 0, none⟩) s.size (grownCap w s.size 0 e)) hd hc0 rfl
        ⟨by rw [dK (sz := 1) (by simp [bF])]; simp [bF], fun k c v hkc hkv => by
         obtain ⟨b, hb, rfl⟩ := ax hkv
         have : (bF s).flatten[k * 1 + 0]? = some (.v (.int .u8 b.toNat)) := by
          rw [Gt [.v (.int .u8 b.toNat)] (bF s) 1 (by simp [bF]) k (by simp [bF, hb]) 0 (by omega)]
          rfl
         rw [show k * 1 + 0 = k by omega, hkc] at this
         cases this
         exact ⟨rfl, rfl⟩⟩
        (by simp [bF]) (by simp [bF]; exact hcap) (fun k u hu => by
         obtain ⟨b, hb, rfl⟩ := ax hu
         have hk := (List.getElem?_eq_some_iff.1 hb).1
         simp only [Lib.bytesCells]
         rw [Array.getElem?_append_left (by simpa using hk)]
         rw [Array.getElem?_toList] at hb
         simp [hb])
        (by rw [hcs]; omega) (fun o ho => by rw [hcs]; omega) ⟨by simp [bF, hsz], by simp [bF]; exact hcap, rfl⟩ (.inr rfl)
       refine ⟨_, _, γ', by simp only [execOp, ho, hx, Sem.run_bind]; rw [hrun]; rfl, r1, .inl ⟨_, r2, rfl, hcap⟩, ku w.drew _⟩
      ·cases h
    ·cases h
   ·rename_i e hk0 hk
    rw [hk0] at h1
    rw [hk] at h2
    split at h
    ·rename_i hu8
     split at h
     ·cases h
     ·rename_i fz rows hrows
      cases hn : yA rows with
      | none => rw [hn] at h; cases h
      | some ns =>
       rw [hn] at h
       cases h
       have hrv := Qm hn
       obtain ⟨A, cap, vals, hx, hall, hor⟩ := Ey hR hrows (hR.evT x)
       have hflat : rows.flatten = ns.map fun n => C.v (.int .u8 n) := by
        rw [hrv]
        clear hn hrv hall hor hx hrows
        induction ns with
        | nil => rfl
        | cons n ns ih => simp [ih]
       have hvals : vals = ns.map (Value.int .u8) := by
        apply List.ext_getElem?
        intro k
        rw [hflat] at hall
        cases hk : ns[k]? with
        | none =>
         have : vals[k]? = none := by
          rw [List.getElem?_eq_none_iff, <- hall.1, List.length_map]
          exact List.getElem?_eq_none_iff.1 hk
         rw [this, List.getElem?_map, hk]; rfl
        | some n =>
         obtain ⟨v, hv1, hv2⟩ := hall.get (k := k) (a := C.v (.int .u8 n)) (by simp [hk])
         rw [hv1, List.getElem?_map, hk]
         cases fz with
         | true =>
          simp only [if_true] at hv2
          cases hv2 with
          | v _ => rfl
         | false =>
          obtain ⟨l, hl⟩ := hv2
          rw [show v = .int .u8 n from hl.1]
          rfl
       have hlen : rows.length = ns.length := by rw [hrv]; simp
       have hload : ∀ ad, A = some ad -> (loadCells ad rows.length).run P w = .ok (ns.map (Value.int .u8)).toArray w := by
        intro ad had
        rcases hor with h0 | ⟨b, o, sz, hA, hs, hc⟩
        ·subst h0
         have : ns = [] := List.eq_nil_of_length_eq_zero (by rw [<- hlen]; rfl)
         subst this
         simp [loadCells, loadCellsFrom]
        ·rw [hA] at had
         cases had
         exact run_loadCells (by rw [List.length_map, hlen]) (fun k v hk => hc k v (by rw [hvals]; exact hk))
       refine ⟨.string (strOfNums ns), w, γ, ?_, hR, .v rfl, sJ.refl w⟩
       have hs := run_convert_bytes_string (P := P) w src dst e A rows.length cap (show P.underlying src = _ from h1) (IX hTy hu8) (show P.underlying dst = _ from h2)
       have hb : (Conv.bytesToString (.slice A rows.length cap)).run P w = .ok (.string (strOfNums ns)) w := by
        cases A with
        | none =>
         have : rows = [] := hor.resolve_right (fun ⟨b, o, sz, hA, _⟩ => by cases hA)
         subst this
         have : ns = [] := List.eq_nil_of_length_eq_zero (by rw [<- hlen]; rfl)
         subst this
         simp [Conv.bytesToString]
         rfl
        | some ad =>
         rw [run_bytesToString w ad rows.length cap ns (hload ad rfl), foldl_push_bytes]
         simp [strOfNums, ByteArray.empty, ByteArray.emptyWithCapacity]
         rfl
       rw [hb] at hs
       simp only [execOp, ho, hx, Sem.run_bind, hs, Result.andThen_ok, Sem.run_pure]
    ·cases h
   ·cases h
  ·cases h
 ·cases h
end
end Go.Mv
namespace Go.Mv
open Go.RowKit
def fgt (fl : Bool) (p : Path) (t : T1) : T1 := if fl then t.forget p else t
def ph (st : St) (sz : Nat) (q : Path) (i f : Nat) (t : T1) : Option (St × Bool) :=
 if known t = false then none else
 match ay st.m q with
 | none => none
 | some rows => match at2 rows i f with
  | none => none
  | some c =>
   if c.rows.isSome || (lD sz t).rows.isSome then some ({ t := st.t.map (TV.bX (T1.forget (q ++ [(i, f)]))), m := bh st.m q (bz rows i f (lD sz t)) }, true)
   else some ({ t := st.t, m := bh st.m q (bz rows i f (lD sz t)) }, false)
def ml (st : St) (q : Path) (i : Nat) : List Nat -> Nat -> List T1 -> List T1 -> Option (St × List T1)
 | _, _, ds, [] => some (st, ds)
 | szs, f, ds, t :: ts => match ph st (szs.headD 0) q i f t with
  | none => none
  | some (st1, fl) => ml st1 q i szs.tail (f + 1) ((ds ++ [t]).map (fgt fl (q ++ [(i, f)]))) (ts.map (fgt fl (q ++ [(i, f)])))
 termination_by _ _ _ ts => ts.length
section
variable {P : Program} {Ty : Types} {B : da} {S : Nat -> Prop} {γ : Path -> Option Loc} {st : St} {a : Act} {w : World}
theorem Det.VU {x : C} {v : Value} (hv : Hdr w S x none v) : Det w S x (fun _ => none) v := by
 refine ⟨hv, fun s rs hs => ?_, (fun s rows l i f c _ hl => by cases hl), (fun s s' rows rows' l l' _ _ hl => by cases hl)⟩
 unfold cS at hs
 cases hr : x.rows with
 | none => rw [hr] at hs; cases hs
 | some r =>
  rw [hr, qh hv hr] at hs
  simp only [Option.bind_some] at hs
  cases s with
  | nil => cases hs; rfl
  | cons p s => obtain ⟨i, f⟩ := p; simp [ay, at2] at hs
theorem pk.En {mem : Rows} {x : C} : pk mem γ x (fun _ => none) := fun _ _ _ _ _ _ _ _ _ _ hl => by cases hl
theorem Rel.ph {sz : Nat} {q : Path} {i f : Nat} {t : T1} {v : Value} {l : Loc} {st' : St} {fl : Bool} (h : Rel B S γ st a w) (hq : q ≠ []) (hl : γ q = some l) (ht : au w S γ t v)
  (hs : Mv.ph st sz q i f t = some (st', fl)) :
  (∃ u, w.cell? ⟨l.b, l.off + i * l.sz + f, none⟩ = some u) /\ w.frozen? ⟨l.b, l.off + i * l.sz + f, none⟩ = false /\ ∃ γ', Rel B S γ' st' a (w.setCell ⟨l.b, l.off + i * l.sz + f, none⟩ v) /\ γ' q = some l /\
   ∀ t u, au w S γ t u -> au (w.setCell ⟨l.b, l.off + i * l.sz + f, none⟩ v) S γ' (fgt fl (q ++ [(i, f)]) t) u := by
 unfold Mv.ph at hs
 by_cases hk : known t = true
 case neg => rw [if_pos (by simpa using hk)] at hs; cases hs
 rw [if_neg (by simp [hk])] at hs
 cases hr : ay st.m q with
 | none => rw [hr] at hs; cases hs
 | some rows =>
  rw [hr] at hs
  simp only [] at hs
  cases hc : at2 rows i f with
  | none => rw [hc] at hs; cases hs
  | some c =>
   rw [hc] at hs
   simp only [] at hs
   have hloc := h.mem.loc q rows hq hr
   rw [hl] at hloc
   obtain ⟨hS, hcap, hrow, cells, e, lo, hi, hh, hsz, hz⟩ := hloc
   obtain ⟨u, hu, _⟩ := h.mem.cell q rows l i f c hq hr hl hc
   have hidx : i < rows.length /\ f < l.sz := by
    unfold at2 at hc
    cases hri : rows[i]? with
    | none => rw [hri] at hc; cases hc
    | some r =>
     rw [hri] at hc
     refine ⟨(List.getElem?_eq_some_iff.1 hri).1, ?_⟩
     rw [<- hrow r (List.mem_of_getElem? hri)]
     exact (List.getElem?_eq_some_iff.1 hc).1
   have hin : i * l.sz + f < l.cap * l.sz := by
    have : (i + 1) * l.sz <= l.cap * l.sz := Nat.mul_le_mul_right _ (by omega)
    rw [Nat.succ_mul] at this
    omega
   have hfz : w.frozen? ⟨l.b, l.off + i * l.sz + f, none⟩ = false := by
    have := hz (l.off + i * l.sz + f) (by omega) (by omega)
    simp only [World.frozen?, hh]
    rw [Bool.and_eq_false_iff]
    by_cases h1 : lo <= l.off + i * l.sz + f
    ·exact .inr (by simpa using fun h2 => this ⟨h1, h2⟩)
    ·exact .inl (by simpa using h1)
   have hSw : ∀ b, S b -> (w.setCell ⟨l.b, l.off + i * l.sz + f, none⟩ v).heap[b]? = w.heap[b]? := fun b hb => cm w _ v (fun e => hS (by have e' : b = l.b := e; rw [<- e']; exact hb))
   have hhdr := GD (sz := sz) hk ht
   have hmem := h.mem.UZ (δ := fun _ => none) (Det.VU hhdr) pk.En hq hr hc hl
   have hfr : Frame B (w.setCell ⟨l.b, l.off + i * l.sz + f, none⟩ v) := h.fr.setCell ((h.own q rows l hq hr hl).imp id fun hF => hF.2 _ (by omega) (by omega)) v
   have hsize : w.heap.size <= (w.setCell ⟨l.b, l.off + i * l.sz + f, none⟩ v).heap.size := by simp [World.setCell]
   refine ⟨⟨u, hu⟩, hfz, ?_⟩
   by_cases hown : (c.rows.isSome || (lD sz t).rows.isSome) = true
   ·rw [if_pos hown] at hs
    cases hs
    refine ⟨_, h.Oy hmem hr hc hSw hsize hfr (fun _ _ _ _ hl' => by cases hl') (fun hq0 => absurd hq0 hq), ?_, fun t u htu => ?_⟩
    ·rw [bu (fun hp => by have := hp.length_le; simp at this; omega)]
     exact hl
    ·exact au.forget (dB _ _ q i f) (au.frame (fun _ hb => hb) hSw htu)
   ·rw [if_neg hown] at hs
    cases hs
    have hx : (lD sz t).rows = none := by
     cases hx : (lD sz t).rows with
     | none => rfl
     | some r => rw [hx] at hown; simp at hown
    exact ⟨γ, h.ZG hmem hr hc hx hSw hsize hfr, hl, fun t u htu => au.frame (fun _ hb => hb) hSw htu⟩
theorem pf {v : Value} (h : plain v = true) : v.oneCell' = true := by
 cases v <;> first | rfl | cases h
theorem cK.append {α β : Type} {R : α -> β -> Prop} {as as' : List α} {bs bs' : List β} (h : cK R as bs) (k : cK R as' bs') : cK R (as ++ as') (bs ++ bs') :=
 ⟨by simp [h.1, k.1], fun j a b ha hb => by
  by_cases hj : j < as.length
  ·rw [List.getElem?_append_left hj] at ha
   rw [List.getElem?_append_left (by rw [<- h.1]; exact hj)] at hb
   exact h.2 j a b ha hb
  ·rw [List.getElem?_append_right (by omega)] at ha
   rw [List.getElem?_append_right (by rw [<- h.1]; omega), <- h.1] at hb
   exact k.2 _ a b ha hb⟩
theorem Rel.ml {q : Path} {i f0 : Nat} {l : Loc} (hq : q ≠ []) : ∀ (n : Nat) (szs : List Nat) (ds ts : List T1) (dvs vs : List Value) (k : Nat) (γ : Path -> Option Loc) (st st' : St) (us : List T1) (w : World), ts.length = n -> Rel B S γ st a w ->
  cK (au w S γ) ds dvs -> cK (au w S γ) ts vs -> (∀ v ∈ vs, plain v = true) -> γ q = some l -> Mv.ml st q i szs (f0 + k) ds ts = some (st', us) ->
  ∃ w' γ', (storeCells ⟨l.b, l.off + i * l.sz + f0, none⟩ vs k).run P w = .ok () w' /\ Rel B S γ' st' a w' /\ γ' q = some l /\ cK (au w' S γ') us (dvs ++ vs) /\
   (∀ (j : Nat) (v : Value), vs[j]? = some v -> w'.cell? ⟨l.b, l.off + i * l.sz + f0 + k + j, none⟩ = some v) /\
   (∀ o, o < l.off + i * l.sz + f0 + k -> w'.cell? ⟨l.b, o, none⟩ = w.cell? ⟨l.b, o, none⟩) := by
 intro n
 induction n with
 | zero =>
  intro szs ds ts dvs vs k γ st st' us w hn hR hds hall _ hl hs
  have h0 : ts = [] := List.eq_nil_of_length_eq_zero hn
  subst h0
  have h1 : vs = [] := List.eq_nil_of_length_eq_zero (by rw [<- hall.1]; rfl)
  subst h1
  unfold Mv.ml at hs
  cases hs
  exact ⟨w, γ, by simp [storeCells], hR, hl, by simpa using hds, fun j v hj => by simp at hj, fun _ _ => rfl⟩
 | succ n ih =>
  intro szs ds ts dvs vs k γ st st' us w hn hR hds hall hpl hl hs
  cases ts with
  | nil => simp at hn
  | cons t ts =>
   obtain ⟨v, vs, rfl, ht, hts⟩ := hall.dQ
   unfold Mv.ml at hs
   split at hs
   ·cases hs
   ·rename_i st1 fl h1
    obtain ⟨⟨u, hu⟩, hfz, γ1, r1, r2, r3⟩ := hR.ph hq hl ht h1
    have haddr : l.off + i * l.sz + (f0 + k) = l.off + i * l.sz + f0 + k := by omega
    rw [haddr] at hu hfz r1 r3
    have hpv := hpl v (by simp)
    obtain ⟨w', γ', g1, g2, g3, g4, g5, g6⟩ := ih szs.tail _ (ts.map (fgt fl (q ++ [(i, f0 + k)]))) (dvs ++ [v]) vs (k + 1) γ1 st1 _ us _ (by simpa using hn) r1
     ((hds.append (.cons ht .nil)).ke _ fun t v ht => r3 t v ht) (hts.ke _ fun t v ht => r3 t v ht) (fun v hv => hpl v (by simp [hv])) r2
     (by rw [show f0 + (k + 1) = f0 + k + 1 by omega]; exact hs)
    have hcellk : w'.cell? ⟨l.b, l.off + i * l.sz + f0 + k, none⟩ = some v := by
     rw [g6 _ (by omega)]
     exact qt v hu
    refine ⟨w', γ', ?_, g2, g3, by simpa using g4, fun j v' hj => ?_, fun o ho => ?_⟩
    ·simp only [storeCells, Sem.run_bind, add_eq, run_store P w _ v .plain (pf hpv), hu, hfz, Bool.false_eq_true, if_false, Result.andThen_ok]
     exact g1
    ·cases j with
     | zero => simp at hj; subst hj; simpa using hcellk
     | succ j => rw [show l.off + i * l.sz + f0 + k + (j + 1) = l.off + i * l.sz + f0 + (k + 1) + j by omega]; exact g5 j v' (by simpa using hj)
    ·rw [g6 o (by omega)]
     exact qu v (fun ⟨_, he⟩ => by omega)
end
def Kz (Ty : Types) (st : St) (t : TypeId) (p x : Operand) : Option St :=
 match Ty t with
 | none => none
 | some ti => match evT st p, jH (evT st x) with
  | .one (.pl q i f), some l =>
   if q.isEmpty = false /\ l.length = ti.size then
    match ml st q i ti.szs f [] l with
    | none => none
    | some (st1, us) => bo st1 q i f us
   else none
  | _, _ => none
section
variable {P : Program} {Ty : Types} {B : da} {S : Nat -> Prop} {γ : Path -> Option Loc} {st : St} {a : Act} {w : World}
theorem Tz (hTy : lT P Ty) (hR : Rel B S γ st a w) {o : Oper} {t : TypeId} {p x : Operand} (ho : o.op = .store t p x) {st' : St} (h : Kz Ty st t p x = some st') :
  ∃ w' γ', (execOp a.eval o).run P w = .ok .skip w' /\ Rel B S γ' st' a w' := by
 unfold Kz at h
 split at h
 ·cases h
 ·rename_i ti hti
  split at h
  ·rename_i q i f l hp hl
   split at h
   ·rename_i hc
    obtain ⟨hqe, hlen⟩ := hc
    have hq : q ≠ [] := by rintro rfl; simp at hqe
    split at h
    ·cases h
    ·rename_i st1 us hst
     have hpv := hR.evT p
     rw [hp] at hpv
     obtain ⟨lc, hlc, hpe⟩ := hpv
     obtain ⟨hall, hkn⟩ := mR hl (hR.evT x)
     have hplain : ∀ v ∈ (a.eval x).cells.toList, plain v = true := by
      intro v hv
      obtain ⟨k, hk, he⟩ := List.getElem_of_mem hv
      have hk' : k < l.length := by rw [hall.1]; exact hk
      exact tf (hkn l[k] (List.getElem_mem hk')) (hall.2 k _ v (List.getElem?_eq_getElem hk') (by rw [List.getElem?_eq_getElem hk, he]))
     obtain ⟨w', γ', g1, g2, g3, g4, g5, _⟩ := Rel.ml (P := P) (f0 := f) hq l.length ti.szs [] l [] (a.eval x).cells.toList 0 γ st st1 us w rfl hR .nil hall hplain hlc hst
     obtain ⟨γ2, r1, r2⟩ := Rel.bo (a := a) (i := i) hq us _ f γ' _ _ g2 (by simpa using g4) g3 (fun k v hk => by have := g5 k v hk; rwa [Nat.add_zero, Nat.add_assoc] at this) h
     refine ⟨w', γ2, ?_, r1⟩
     have hsz : (a.eval x).cells.size = ti.size := by rw [<- hlen, hall.1]; simp
     simp [execOp, ho, Instr.storeAt, hpe, Instr.sureAddr, storeVar, run_sizeOf (hTy _ _ hti), hsz, g1]
   ·cases h
  ·cases h
end
end Go.Mv
namespace Go.Mv
open Go.RowKit
def TY : C -> C
 | .v u => .v u
 | .fn f caps => .fn f caps
 | .fz c => TY c
 | .dead => .dead
 | c => .fz c
def Gw : C -> Bool
 | .v _ => true
 | .fz _ => true
 | .fn _ _ => true
 | _ => false
def cO (c : C) : C := if Gw c then c else .dead
section
variable {P : Program} {Ty : Types} {B : da} {S : Nat -> Prop} {γ : Path -> Option Loc} {st : St} {a : Act} {w : World}
theorem NG : ∀ {c : C} {x : Value}, gd w S c x -> Hdr w S (TY c) none x
 | _, _, .v h => ⟨rfl, h⟩
 | _, _, .nil => .nil
 | _, _, .sl a b c d e => .sl a b c d e
 | _, _, .bx a b c => .bx a b c
 | .fz c, _, .fz h => (NG h : Hdr w S (TY c) none _)
 | _, _, .dead h => h
 | _, _, .fn h => .fn h
theorem La {c : C} {l : Option Loc} {x : Value} (h : Hdr w S c l x) : Hdr w S (cO c) none x := by
 have hp := h.plain
 unfold cO
 split
 ·rename_i hn
  cases c <;> first | exact h | cases hn
 ·exact hp
def kM (n : Nat) (l' : Loc) (δ : Path -> Option Loc) : Path -> Option Loc
 | [] => some l'
 | (i, f) :: s => if i < n then δ ((i, f) :: s) else none
theorem ki {r1 r2 : Rows} {i f : Nat} : at2 (r1 ++ r2) i f = if i < r1.length then at2 r1 i f else at2 r2 (i - r1.length) f := by
 unfold at2
 split
 ·rename_i h; rw [List.getElem?_append_left h]
 ·rename_i h; rw [List.getElem?_append_right (by omega)]
theorem Det.extend {w' : World} {rows new : Rows} {δ : Path -> Option Loc} {v v' : Value} {l' : Loc} {cells : Array Value} {e : TypeId} {lo hi sz : Nat} (h : Det w S (.sl sz rows) δ v)
  (hSw : ∀ b, S b -> w'.heap[b]? = w.heap[b]?) (hsub : ∀ i f s rs l, cS (.sl sz rows) ((i, f) :: s) = some rs -> δ ((i, f) :: s) = some l -> w'.heap[l.b]? = w.heap[l.b]? /\ l.b ≠ l'.b)
  (hS : ¬ S l'.b) (hcap : (rows ++ new).length <= l'.cap) (hrow : ∀ r ∈ rows ++ new, r.length = l'.sz) (hheap : w'.heap[l'.b]? = some (.cells cells e (lo, hi)))
  (hsz : l'.off + l'.cap * l'.sz <= cells.size /\ (hi <= cells.size \/ l'.sz = 1)) (hz : ∀ o, l'.off <= o -> o < l'.off + l'.cap * l'.sz -> ¬ (lo <= o /\ o < hi))
  (hold : ∀ i f c, at2 rows i f = some c -> ∃ u, w'.cell? ⟨l'.b, l'.off + i * l'.sz + f, none⟩ = some u /\ Hdr w S c (δ [(i, f)]) u)
  (hnew : ∀ i f c, at2 new i f = some c -> ∃ u, w'.cell? ⟨l'.b, l'.off + (rows.length + i) * l'.sz + f, none⟩ = some u /\ Hdr w' S c none u)
  (hv : v' = .slice (some ⟨l'.b, l'.off, none⟩) (rows ++ new).length l'.cap) (hlsz : l'.sz = sz) : Det w' S (.sl sz (rows ++ new)) (kM rows.length l' δ) v' := by
 have hget : ∀ i f s rs, cS (.sl sz (rows ++ new)) ((i, f) :: s) = some rs -> (i < rows.length /\ cS (.sl sz rows) ((i, f) :: s) = some rs) \/ (¬ i < rows.length /\ rs = []) := by
  intro i f s rs hg
  simp only [cS, C.rows, Option.bind_some, ay, ki] at hg
  by_cases hi : i < rows.length
  ·rw [if_pos hi] at hg
   exact .inl ⟨hi, by simpa [cS, C.rows, ay] using hg⟩
  ·rw [if_neg hi] at hg
   refine .inr ⟨hi, ?_⟩
   cases hc : at2 new (i - rows.length) f with
   | none => rw [hc] at hg; cases hg
   | some c =>
    rw [hc] at hg
    simp only [Option.bind_some] at hg
    obtain ⟨u, _, hu⟩ := hnew _ _ _ hc
    cases hr : c.rows with
    | none => rw [hr] at hg; cases hg
    | some r =>
     rw [hr, qh hu hr] at hg
     simp only [Option.bind_some] at hg
     cases s with
     | nil => cases hg; rfl
     | cons p s => obtain ⟨i', f'⟩ := p; simp [ay, at2] at hg
 refine ⟨⟨hv, hcap, hlsz⟩, fun s rs hs => ?_, fun s rs l i f c hs hl hc => ?_, fun s s' rs rs' l1 l2 hs hs' hl1 hl2 hb => ?_⟩
 ·cases s with
  | nil =>
   simp only [cS, C.rows, Option.bind_some, ay, Option.some.injEq] at hs
   subst hs
   exact ⟨hS, hcap, hrow, cells, e, lo, hi, hheap, hsz, hz⟩
  | cons p s =>
   obtain ⟨i, f⟩ := p
   rcases hget i f s rs hs with ⟨hi, hg⟩ | ⟨hi, rfl⟩
   ·simp only [kM, if_pos hi]
    have := h.loc _ _ hg
    cases hl : δ ((i, f) :: s) with
    | none => rw [hl] at this; exact this
    | some l =>
     rw [hl] at this
     obtain ⟨k1, k2, k3, cells1, e1, lo1, hi1, k4, k5⟩ := this
     exact ⟨k1, k2, k3, cells1, e1, lo1, hi1, by rw [(hsub i f s rs l hg hl).1]; exact k4, k5⟩
   ·simp only [kM, if_neg hi]
    rfl
 ·cases s with
  | nil =>
   simp only [kM, Option.some.injEq] at hl
   subst hl
   simp only [cS, C.rows, Option.bind_some, ay, Option.some.injEq] at hs
   subst hs
   rw [ki] at hc
   simp only [List.nil_append, kM]
   by_cases hi : i < rows.length
   ·rw [if_pos hi] at hc
    obtain ⟨u, h1, h2⟩ := hold i f c hc
    exact ⟨u, h1, by rw [if_pos hi]; exact h2.frame (fun _ hb => hb) hSw⟩
   ·rw [if_neg hi] at hc
    obtain ⟨u, h1, h2⟩ := hnew _ f c hc
    exact ⟨u, by rw [<- h1]; congr 3; rw [show rows.length + (i - rows.length) = i by omega], by rw [if_neg hi]; exact h2⟩
  | cons p s =>
   obtain ⟨i', f'⟩ := p
   rcases hget i' f' s rs hs with ⟨hi, hg⟩ | ⟨hi, rfl⟩
   ·simp only [kM, if_pos hi] at hl
    obtain ⟨u, h1, h2⟩ := h.cell _ _ l i f c hg hl hc
    refine ⟨u, by rw [World.cell?_of_block (w := w) (hsub i' f' s rs l hg hl).1]; exact h1, ?_⟩
    simp only [List.cons_append, kM, if_pos hi]
    exact h2.frame (fun _ hb => hb) hSw
   ·simp [at2] at hc
 ·cases s with
  | nil =>
   cases s' with
   | nil => rfl
   | cons p s' =>
    obtain ⟨i, f⟩ := p
    simp only [kM, Option.some.injEq] at hl1
    subst hl1
    rcases hget i f s' rs' hs' with ⟨hi, hg⟩ | ⟨hi, rfl⟩
    ·simp only [kM, if_pos hi] at hl2
     exact absurd hb.symm (hsub i f s' rs' l2 hg hl2).2
    ·simp only [kM, if_neg hi] at hl2; cases hl2
  | cons p s =>
   obtain ⟨i, f⟩ := p
   rcases hget i f s rs hs with ⟨hi, hg⟩ | ⟨hi, rfl⟩
   ·simp only [kM, if_pos hi] at hl1
    cases s' with
    | nil =>
     simp only [kM, Option.some.injEq] at hl2
     subst hl2
     exact absurd hb (hsub i f s rs l1 hg hl1).2
    | cons p' s' =>
     obtain ⟨i', f'⟩ := p'
     rcases hget i' f' s' rs' hs' with ⟨hi', hg'⟩ | ⟨hi', rfl⟩
     ·simp only [kM, if_pos hi'] at hl2
      exact h.inj _ _ rs rs' l1 l2 hg hg' hl1 hl2 hb
     ·simp only [kM, if_neg hi'] at hl2; cases hl2
   ·simp only [kM, if_neg hi] at hl1; cases hl1
theorem Rel.Kf {w' : World} {q : Path} {i f d : Nat} {rows : Rows} {x x' : C} {v' : Value} {δ' : Path -> Option Loc} (h : Rel B S γ st a w) (hq : ay st.m q = some rows) (hx : at2 rows i f = some x)
  (hd : B.np <= d) (hc : (at2 (bh st.m q (bz rows i f .dead)) d 0).isSome = true) (hSw : ∀ b, S b -> w'.heap[b]? = w.heap[b]?) (hsz : w.heap.size <= w'.heap.size) (hfr : Frame B w')
  (hoth : ∀ p rs l, p ≠ [] -> ¬ q ++ [(i, f)] <+: p -> ay st.m p = some rs -> γ p = some l -> w'.heap[l.b]? = w.heap[l.b]?)
  (hdet : Det w' S x' δ' v') (hap : ∀ s rs l p rs' l', cS x' s = some rs -> δ' s = some l -> p ≠ [] -> ¬ q ++ [(i, f)] <+: p -> ay st.m p = some rs' -> γ p = some l' -> l'.b ≠ l.b)
  (hown : ∀ s rs l, cS x' s = some rs -> δ' s = some l -> yN B l) :
  ∃ γ', Rel B S γ' { t := (st.t.map (TV.bX (T1.forget (q ++ [(i, f)])))).map (TV.bX (T1.forget [(d, 0)])), m := bz (bh st.m q (bz rows i f .dead)) d 0 x' } a w' /\
   (∀ s, γ' ((d, 0) :: s) = δ' s) /\ ∀ t u, au w S γ t u -> au w' S γ' ((T1.forget (q ++ [(i, f)]) t).forget [(d, 0)]) u := by
 obtain ⟨c, hc⟩ := Option.isSome_iff_exists.1 hc
 have hkill := h.mem.kill hq hx
 have key := @fm st.m rows q i f .dead x hq hx
 have hnp : ∀ p rs, ay (bh st.m q (bz rows i f .dead)) p = some rs -> ¬ q ++ [(i, f)] <+: p /\ ∃ rs0, ay st.m p = some rs0 := by
  intro p rs hp
  rcases key p rs hp with ⟨s, _, hg⟩ | ⟨hn, rs0, hg, _⟩
  ·simp [cS, C.rows] at hg
  ·exact ⟨hn, rs0, hg⟩
 have hmem' : bf w' S (bh st.m q (bz rows i f .dead)) (nd γ q i f fun _ => none) := hkill.frame (fun _ hb => hb) hSw (fun p rs l hp hr hl => by
  obtain ⟨hn, rs0, hg⟩ := hnp p rs hr
  refine ⟨?_, ?_⟩
  ·rw [bu hn] at hl
   exact hoth p rs0 l hp hn hg hl
  ·have := hkill.loc p rs hp hr
   rw [hl] at this
   exact this.1)
 have hR1 : Rel B S (nd γ q i f fun _ => none) { t := st.t.map (TV.bX (T1.forget (q ++ [(i, f)]))), m := bh st.m q (bz rows i f .dead) } a w' :=
  h.Oy (x := .dead) (δ := fun _ => none) hmem' hq hx hSw hsz hfr (fun s rs l hg => by simp [cS, C.rows] at hg) (fun _ _ hd => absurd rfl hd)
 have hap' : pk (bh st.m q (bz rows i f .dead)) (nd γ q i f fun _ => none) x' δ' := by
  intro p rs l s rs' l' hp hr hl hs hl' hb
  obtain ⟨hn, rs0, hg⟩ := hnp p rs hr
  rw [bu hn] at hl
  exact hap s rs' l' p rs0 l hs hl' hp hn hg hl hb
 have hR2 := hR1.Oy (q := []) (i := d) (f := 0) (x := x') (hmem'.rD hdet hap' hc) rfl hc (fun _ _ => rfl) (Nat.le_refl _) hfr hown (fun _ hlt => absurd hlt (by omega))
 refine ⟨_, hR2, fun s => by have := dM (nd γ q i f fun _ => none) [] d 0 δ' s; simpa using this, fun t u ht => ?_⟩
 exact au.forget (dB _ _ [] d 0) (au.forget (dB _ _ q i f) (au.frame (fun _ hb => hb) hSw ht))
end
end Go.Mv
namespace Go.Mv
open Go.RowKit
def JO : TypeDesc -> Bool
 | .int _ => false
 | _ => true
theorem BD {d : TypeDesc} (h : JO d = true) : ∀ k, d = .int k -> False := by
 rintro k rfl
 cases h
section
variable {P : Program} {Ty : Types} {B : da} {S : Nat -> Prop} {γ : Path -> Option Loc} {st : St} {a : Act} {w : World}
theorem yG (P : Program) {b : Nat} {e : TypeId} {lo hi : Nat} : ∀ (vs : List Value) (o k : Nat) (cells : Array Value) (w : World), w.heap[b]? = some (.cells cells e (lo, hi)) -> o + k + vs.length <= cells.size ->
  (∀ j, o + k <= j -> j < o + k + vs.length -> ¬ (lo <= j /\ j < hi)) -> (∀ v ∈ vs, plain v = true) ->
  ∃ w' cells', (storeCells ⟨b, o, none⟩ vs k).run P w = .ok () w' /\ w'.heap[b]? = some (.cells cells' e (lo, hi)) /\ cells'.size = cells.size /\
   (∀ j, cells'[j]? = if o + k <= j /\ j < o + k + vs.length then vs[j - (o + k)]? else cells[j]?) /\ (∀ j, j ≠ b -> w'.heap[j]? = w.heap[j]?) /\ w'.os = w.os /\ w'.tape = w.tape /\ w'.output = w.output /\ w'.heap.size = w.heap.size := by
 intro vs
 induction vs with
 | nil =>
  intro o k cells w hh _ _ _
  exact ⟨w, cells, by simp [storeCells], hh, rfl, fun j => by rw [if_neg (by simp)], fun _ _ => rfl, rfl, rfl, rfl, rfl⟩
 | cons v vs ih =>
  intro o k cells w hh hle hz hp
  simp only [List.length_cons] at hle hz
  have hlt : o + k < cells.size := by omega
  have hc : w.cell? ⟨b, o + k, none⟩ = some cells[o + k] := by simp [World.cell?, hh, hlt]
  have hf : w.frozen? ⟨b, o + k, none⟩ = false := by
   have := hz (o + k) (by omega) (by omega)
   simp only [World.frozen?, hh]
   rw [Bool.and_eq_false_iff]
   by_cases h1 : lo <= o + k
   ·exact .inr (by simpa using fun h2 => this ⟨h1, h2⟩)
   ·exact .inl (by simpa using h1)
  have hh1 := gT (o := o + k) v hh
  obtain ⟨w', cells', g1, g2, g3, g4, g5, g6, g7, g8, g9⟩ := ih o (k + 1) (cells.setIfInBounds (o + k) v) (w.setCell ⟨b, o + k, none⟩ v) hh1 (by simp; omega) (fun j h1 h2 => hz j (by omega) (by omega)) (fun u hu => hp u (by simp [hu]))
  refine ⟨w', cells', ?_, g2, by simpa using g3, fun j => ?_, fun j hj => by rw [g5 j hj]; exact cm w _ v hj, g6, g7, g8, by rw [g9]; simp [World.setCell]⟩
  ·simp only [storeCells, Sem.run_bind, add_eq, run_store P w _ v .plain (pf (hp v (by simp))), hc, hf, Bool.false_eq_true, if_false, Result.andThen_ok]
   exact g1
  ·rw [g4 j]
   by_cases hj : j = o + k
   ·subst hj
    rw [if_neg (by omega), if_pos (by simp), Nat.sub_self, Array.getElem?_setIfInBounds_self_of_lt hlt]
    rfl
   ·by_cases hr : o + k <= j /\ j < o + k + (vs.length + 1)
    ·rw [if_pos (by omega), if_pos (by simpa using hr), show j - (o + k) = (j - (o + (k + 1))) + 1 by omega]
     simp
    ·rw [if_neg (by omega), if_neg (by simpa using hr), Array.getElem?_setIfInBounds_ne (by omega)]
structure Src (P : Program) (size : Nat) (x : Value) (m : Nat) (news : List Value) (w : World) : Prop where
 len : ∀ w' : World, (Builtin.lenOf x).run P w' = .ok m w'
 first : ∀ w' : World, w'.heap = w.heap -> (Builtin.firstCells size m x).run P w' = .ok news.toArray w'
 n : news.length = m * size
 plain : ∀ v ∈ news, plain v = true
theorem yF {t e xt ty : TypeId} {ei : jj} {d : TypeDesc} (hu : P.underlying t = some (.slice e)) (he : ei.OK P e) (hx : P.underlying xt = some d) (hd0 : JO d = true)
  {x : Value} {news : List Value} {sb : Option Addr} {n cap : Nat} (hs : Src P ei.size x 0 news w) (hn : n <= cap) :
  (Builtin.append_ #[t, xt] ty #[.slice sb n cap, x]).run P w = .ok (.slice sb n cap) w := by
 have hd := BD hd0
 have hnews : news = [] := List.eq_nil_of_length_eq_zero (by rw [hs.n]; simp)
 subst hnews
 have hf := hs.first w rfl
 cases sb with
 | none => simp [Builtin.append_, run_underlying hu, run_underlying hx, run_sizeOf he, hs.len, hn, hf]
 | some ad => simp [Builtin.append_, run_underlying hu, run_underlying hx, run_sizeOf he, hs.len, hn, hf, storeCells]
theorem Ki {t e xt ty : TypeId} {ei : jj} {d : TypeDesc} (hu : P.underlying t = some (.slice e)) (he : ei.OK P e) (hx : P.underlying xt = some d) (hd0 : JO d = true)
  {x : Value} {news : List Value} {b o n cap m : Nat} (hs : Src P ei.size x m news w) (hn : n + m <= cap) {w' : World} (hst : (storeCells ⟨b, o + n * ei.size, none⟩ news).run P w = .ok () w') :
  (Builtin.append_ #[t, xt] ty #[.slice (some ⟨b, o, none⟩) n cap, x]).run P w = .ok (.slice (some ⟨b, o, none⟩) (n + m) cap) w' := by
 have hd := BD hd0
 have hf := hs.first w rfl
 simp [Builtin.append_, run_underlying hu, run_underlying hx, run_sizeOf he, hs.len, hn, hf, add_eq, hst]
theorem yE {t e xt ty : TypeId} {ei : jj} {d : TypeDesc} (hu : P.underlying t = some (.slice e)) (he : ei.OK P e) (hx : P.underlying xt = some d) (hd0 : JO d = true)
  {x s : Value} {news olds : List Value} {sb : Option Addr} {n cap m : Nat} (hsv : s = .slice sb n cap) (hs : Src P ei.size x m news w) (hn : cap < n + m) (hbytes : (n + m) * ei.bytes <= 140737488355328) (hb : 0 < ei.bytes)
  (hold : ∀ w' : World, w'.heap = w.heap -> (Builtin.firstCells ei.size n s).run P w' = .ok olds.toArray w') :
  (Builtin.append_ #[t, xt] ty #[s, x]).run P w =
   .ok (.slice (some ⟨w.heap.size, 0, none⟩) (n + m) (grownCap w (n + m) cap e)) (w.drew.alloc (.cells (olds.toArray ++ news.toArray ++ Builtin.zeroCells ei.zero.cells (grownCap w (n + m) cap e - (n + m))) e)) := by
 subst hsv
 have hd := BD hd0
 have h1 := hs.first w.drew rfl
 have h2 := hold w.drew rfl
 have he' := he
 obtain ⟨_, ⟨inf', g1, g2, g3, g4⟩, _⟩ := he'
 have hcond : ¬ (n + m <= cap) := by omega
 have hle : n + m <= 140737488355328 := Nat.le_trans (Nat.le_mul_of_pos_right _ hb) hbytes
 have h63 : ¬ (9223372036854775807 < ((n : Int) + (m : Int))) := by omega
 have h48 : ¬ (281474976710656 < Builtin.nextslicecap (n + m) cap * ei.bytes) := by have := growslice_fits (old := cap) (need := n + m) (by omega) hbytes; omega
 simp [Builtin.append_, run_underlying hu, run_underlying hx, run_sizeOf he, hs.len, hcond, typeInfo, zeroValue, g1, g2, g4, h63, h48, Question.forced, h1, h2, newRow, grownCap]
 congr 2
 apply Array.ext'
 simp [List.append_assoc]
end
end Go.Mv
namespace Go.Mv
open Go.RowKit
def oS (m : Rows) : TV -> Option (Bool × Rows)
 | .one (.c (.v (.string s))) => some (true, bF s)
 | t => rowsOf m t
def Gs (m : Rows) : TV -> Option (List T1)
 | .one (.so q i f 1) => match ay m (q ++ [(i, f)]) with
  | some [row] => some (loadT (q ++ [(i, f)]) 0 0 row)
  | _ => none
 | _ => none
def dY (m : Rows) (size : Nat) (tx : TV) : Option (Rows × List T1) :=
 match oS m tx with
 | none => none
 | some (fz, rows) =>
  if rows.all (fun r => r.length == size) = false then none
  else if fz then some (rows.map (List.map TY), [])
  else if rows.all (fun r => r.all Gw) then some (rows, [])
  else (Gs m tx).map fun ts => (rows.map (List.map cO), ts)
def tc (Ty : Types) (t : TypeId) : Bool :=
 match Ty t with
 | some i => match i.k with
  | .slice _ => true
  | .string => true
  | _ => false
 | none => false
def KU (m : Rows) : TV -> Option (Option (Path × Nat × Nat) × Rows × Nat)
 | .one (.so q i f n) => match ay m q with
  | none => none
  | some rs => match at2 rs i f with
   | some (.sl sz rows) => if rows.length = n then some (some (q, i, f), rows, sz) else none
   | _ => none
 | .one (.c (.v (.slice none 0 0))) => some (none, [], 0)
 | _ => none
def ju (m : Rows) (q : Path) (i f : Nat) : Rows :=
 match ay m q with
 | none => m
 | some rs => bh m q (bz rs i f .dead)
def qw (Ty : Types) (np : Nat) (st : St) (d : Nat) (t xt : TypeId) (s x : Operand) : Option (TV × St) :=
 match Ty t with
 | none => none
 | some ti => match ti.k with
  | .slice e => match Ty e with
   | none => none
   | some ei => match KU st.m (evT st s), dY st.m ei.size (evT st x) with
    | some (src, rows, sz), some (new, ts) =>
     if tc Ty xt = true /\ 0 < ei.bytes /\ (rows.length + new.length) * ei.bytes <= 140737488355328 /\ np <= d /\ ei.zero.cells.size = ei.size then
      match src with
      | none =>
       if (at2 st.m d 0).isSome then
        (bo { t := st.t.map (TV.bX (T1.forget [(d, 0)])), m := bz st.m d 0 (.sl ei.size new) } [(d, 0)] 0 0 (ts.map (T1.forget [(d, 0)]))).map fun st' => (.one (.so [] d 0 new.length), st')
       else none
      | some (q, i, f) =>
       if (at2 (ju st.m q i f) d 0).isSome = true /\ sz = ei.size then
        (bo { t := (st.t.map (TV.bX (T1.forget (q ++ [(i, f)])))).map (TV.bX (T1.forget [(d, 0)])), m := bz (ju st.m q i f) d 0 (.sl sz (rows ++ new)) } [(d, 0)] rows.length 0
         (ts.map fun t => (T1.forget (q ++ [(i, f)]) t).forget [(d, 0)])).map fun st' => (.one (.so [] d 0 (rows.length + new.length)), st')
       else none
     else none
    | _, _ => none
  | _ => none
section
variable {P : Program} {Ty : Types} {B : da} {S : Nat -> Prop} {γ : Path -> Option Loc} {st : St} {a : Act} {w : World}
theorem yr {t : TypeId} (hTy : lT P Ty) (h : tc Ty t = true) : ∃ d, P.underlying t = some d /\ JO d = true := by
 unfold tc at h
 split at h
 ·rename_i i hi
  have := (hTy _ _ hi).1
  split at h
  ·rename_i e hk; rw [hk] at this; exact ⟨_, this, rfl⟩
  ·rename_i hk; rw [hk] at this; exact ⟨_, this, rfl⟩
  ·cases h
 ·cases h
theorem Fg (s : ByteArray) : (bF s).flatten = s.data.toList.map fun b => C.v (.int .u8 b.toNat) := by
 unfold bF
 induction s.data.toList with
 | nil => rfl
 | cons b l ih => simp [ih]
theorem MN (hR : Rel B S γ st a w) {tx : TV} {x : Value} {rows : Rows} {fz : Bool} {size : Nat} (h : oS st.m tx = some (fz, rows)) (hx : aD w S γ tx x) (hs : ∀ r ∈ rows, r.length = size) :
  ∃ vals, Src P size x rows.length vals w /\ cK (fun c v => if fz then gd w S c v else ∃ l, Hdr w S c l v) rows.flatten vals /\
   ∀ b o n cap, x = .slice (some ⟨b, o, none⟩) n cap -> rows ≠ [] -> ∀ (k : Nat) (v : Value), vals[k]? = some v -> w.cell? ⟨b, o + k, none⟩ = some v := by
 unfold oS at h
 split at h
 ·rename_i s
  cases h
  cases jC hx
  have hlen : (bF s).length = s.size := by simp [bF]
  have hvl : (s.data.toList.map fun b => Value.int .u8 b.toNat).length = s.size := by simp
  refine ⟨s.data.toList.map fun b => Value.int .u8 b.toNat, ⟨fun w' => by simp [Builtin.lenOf, hlen], fun w' _ => ?_, ?_, fun v hv => ?_⟩, ?_, fun b o n cap hx => by cases hx⟩
  ·simp only [hlen, Builtin.firstCells, Sem.run_pure]
   congr 1
   have : s.extract 0 s.size = s := by simp
   rw [this]
   apply Array.ext'
   simp
  ·rw [hvl, hlen]
   by_cases h0 : s.size = 0
   ·rw [h0]; simp
   ·have hne : bF s ≠ [] := fun e => by rw [e] at hlen; simp at hlen; exact h0 hlen.symm
    obtain ⟨r, hr⟩ := List.exists_mem_of_ne_nil _ hne
    have := hs r hr
    obtain ⟨b, _, rfl⟩ := List.mem_map.1 hr
    have h1 : size = 1 := by simpa using this.symm
    rw [h1, Nat.mul_one]
  ·obtain ⟨b, _, rfl⟩ := List.mem_map.1 hv
   rfl
  ·rw [Fg]
   refine ⟨by simp, fun k c v hc hv => ?_⟩
   obtain ⟨b, hb, rfl⟩ := ax hc
   rw [List.getElem?_map, hb] at hv
   cases hv
   exact .v rfl
 ·obtain ⟨A, cap, vals, rfl, hall, hor⟩ := Ey hR h hx
  have hvl : vals.length = rows.length * size := by rw [<- hall.1, dK hs]
  refine ⟨vals, ⟨fun w' => by simp [Builtin.lenOf], fun w' hw => ?_, hvl, fun v hv => ?_⟩, hall, fun b o n cap hx hne k v hk => ?_⟩
  ·rcases hor with rfl | ⟨b, o, sz, rfl, hsz, hc⟩
   ·have : vals = [] := List.eq_nil_of_length_eq_zero (by rw [hvl]; simp)
    subst this
    cases A with
    | none => simp [Builtin.firstCells]
    | some ad => simp [Builtin.firstCells, loadCells, loadCellsFrom]
   ·simp only [Builtin.firstCells]
    exact run_loadCells hvl (fun k v hk => by
     have := hc k v hk
     unfold World.cell? at this ⊢
     rw [hw]
     exact this)
  ·obtain ⟨k, hk, rfl⟩ := List.getElem_of_mem hv
   have hk' : k < rows.flatten.length := by rw [hall.1]; exact hk
   have := hall.2 k _ _ (List.getElem?_eq_getElem hk') (List.getElem?_eq_getElem hk)
   cases fz with
   | true => exact gd.plain this
   | false => obtain ⟨l, hl⟩ := this; exact hl.plain
  ·rcases hor with rfl | ⟨b', o', sz, rfl, hsz, hc⟩
   ·exact absurd rfl hne
   ·cases hx
    exact hc k v hk
theorem Og {rows : Rows} {vals : List Value} (g : C -> C) : ∀ (_ : ∀ c v, c ∈ rows.flatten -> (∃ k : Nat, rows.flatten[k]? = some c /\ vals[k]? = some v) -> Hdr w S (g c) none v), rows.flatten.length = vals.length ->
  cK (fun c v => Hdr w S c none v) (rows.map (List.map g)).flatten vals := by
 intro h hl
 have hf : (rows.map (List.map g)).flatten = rows.flatten.map g := by rw [List.map_flatten]
 rw [hf]
 refine ⟨by rw [List.length_map]; exact hl, fun k c v hc hv => ?_⟩
 obtain ⟨c0, hc0, rfl⟩ := ax hc
 exact h c0 v (List.mem_of_getElem? hc0) ⟨k, hc0, hv⟩
theorem Ac (hR : Rel B S γ st a w) {tx : TV} {x : Value} {new : Rows} {ts : List T1} {size : Nat} (h : dY st.m size tx = some (new, ts)) (hx : aD w S γ tx x) :
  ∃ vals, Src P size x new.length vals w /\ cK (fun c v => Hdr w S c none v) new.flatten vals /\ (∀ r ∈ new, r.length = size) /\ (ts = [] \/ cK (au w S γ) ts vals) := by
 unfold dY at h
 split at h
 ·cases h
 ·rename_i fz rows hr
  split at h
  ·cases h
  ·rename_i hall
   have hs : ∀ r ∈ rows, r.length = size := fun r hm => by
    simp only [Bool.not_eq_false] at hall
    simpa using List.all_eq_true.1 hall r hm
   obtain ⟨vals, hsrc, hv, hmemc⟩ := MN (P := P) hR hr hx hs
   have hmap : ∀ g : C -> C, ∀ r ∈ rows.map (List.map g), r.length = size := fun g r hm => by
    obtain ⟨r0, h0, rfl⟩ := List.mem_map.1 hm
    rw [List.length_map]
    exact hs r0 h0
   split at h
   ·rename_i hfz
    cases h
    refine ⟨vals, by simpa using hsrc, Og TY (fun c v _ ⟨k, hc, hk⟩ => ?_) hv.1, hmap _, .inl rfl⟩
    have := hv.2 k c v hc hk
    dsimp only at this
    rw [if_pos hfz] at this
    exact NG this
   ·rename_i hfz
    split at h
    ·rename_i hno
     cases h
     refine ⟨vals, hsrc, ⟨hv.1, fun k c v hc hk => ?_⟩, hs, .inl rfl⟩
     have := hv.2 k c v hc hk
     dsimp only at this
     rw [if_neg hfz] at this
     obtain ⟨l, hl⟩ := this
     have hn : Gw c = true := by
      obtain ⟨r, hr', hcr⟩ := List.mem_flatten.1 (List.mem_of_getElem? hc)
      exact List.all_eq_true.1 (List.all_eq_true.1 hno r hr') c hcr
     cases c <;> first | exact hl | cases hn
    ·cases hm : Gs st.m tx with
     | none => rw [hm] at h; cases h
     | some ts' =>
      rw [hm] at h
      cases h
      refine ⟨vals, by simpa using hsrc, Og cO (fun c v _ ⟨k, hc, hk⟩ => ?_) hv.1, hmap _, .inr ?_⟩
      ·have := hv.2 k c v hc hk
       dsimp only at this
       rw [if_neg hfz] at this
       obtain ⟨l, hl⟩ := this
       exact La hl
      ·unfold Gs at hm
       split at hm
       ·rename_i q i f
        split at hm
        ·rename_i row hrow
         cases hm
         have hrows : rows = [row] := by
          simp only [oS, rowsOf, hrow] at hr
          exact (by simpa using hr.symm : fz = false /\ rows = [row]).2
         subst hrows
         rcases hx with ⟨l, hl, rfl, _⟩ | ⟨_, h0, _⟩
         ·refine ⟨by rw [pZ]; simpa using hv.1, fun k t v ht hk => ?_⟩
          rw [BA] at ht
          cases hc : row[k]? with
          | none => rw [hc] at ht; cases ht
          | some c =>
           rw [hc] at ht
           cases ht
           obtain ⟨u, hu1, hu2⟩ := hR.mem.cell _ _ l 0 k c (by simp) hrow hl (by simp [at2, hc])
           have := hmemc _ _ _ _ rfl (by simp) k v hk
           rw [show l.off + 0 * l.sz + k = l.off + k by omega, this] at hu1
           cases hu1
           rw [Nat.zero_add]
           exact Ih hu2
         ·cases h0
        ·cases hm
       ·cases hm
theorem Rh {m : Rows} {t : TV} {src : Option (Path × Nat × Nat)} {rows : Rows} {sz : Nat} (h : KU m t = some (src, rows, sz)) :
  (src = none /\ rows = [] /\ t = .one (.c (.v (.slice none 0 0)))) \/ ∃ q i f rs, src = some (q, i, f) /\ ay m q = some rs /\ at2 rs i f = some (.sl sz rows) /\ t = .one (.so q i f rows.length) := by
 unfold KU at h
 split at h
 ·rename_i q i f n
  split at h
  ·cases h
  ·rename_i rs hr
   split at h
   ·rename_i sz' rows' hx
    split at h
    ·rename_i hn
     cases h
     exact .inr ⟨q, i, f, rs, rfl, hr, hx, by rw [hn]⟩
    ·cases h
   ·cases h
 ·cases h
  exact .inl ⟨rfl, rfl, rfl⟩
 ·cases h
theorem sI (z : Array Value) (n : Nat) : (Builtin.zeroCells z n).size = n * z.size := by simp [Builtin.zeroCells]
theorem Ax {olds news : List Value} {z : Array Value} {k : Nat} : (olds.toArray ++ news.toArray ++ z)[k]? = if k < olds.length then olds[k]? else if k < olds.length + news.length then news[k - olds.length]? else z[k - (olds.length + news.length)]? := by
 rw [Array.getElem?_append, Array.getElem?_append]
 simp only [Array.size_append, List.size_toArray, List.getElem?_toArray]
 by_cases h1 : k < olds.length
 ·simp [h1, show k < olds.length + news.length by omega]
 ·by_cases h2 : k < olds.length + news.length <;> simp [h1, h2]
theorem grownCap_le (w : World) {need old : Nat} {e : TypeId} : need <= grownCap w need old e := by simp only [grownCap, Question.cut]; omega
theorem Wq (hTy : lT P Ty) (hR : Rel B S γ st a w) {t xt ty e : TypeId} {ei : jj} (hu : P.underlying t = some (.slice e)) (hei : ei.OK P e) (hxt : tc Ty xt = true) (hb : 0 < ei.bytes) {x : Value} {new : Rows} {vals : List Value}
  (hsrc : Src P ei.size x new.length vals w) (hnew : cK (fun c v => Hdr w S c none v) new.flatten vals) (hrow : ∀ r ∈ new, r.length = ei.size) (hle : new.length * ei.bytes <= 140737488355328) {d : Nat} (hd : B.np <= d)
  (hc : (at2 st.m d 0).isSome = true) (hz : ei.zero.cells.size = ei.size) :
  ∃ v w' γ', (Builtin.append_ #[t, xt] ty #[.slice none 0 0, x]).run P w = .ok v w' /\ Rel B S γ' { t := st.t.map (TV.bX (T1.forget [(d, 0)])), m := bz st.m d 0 (.sl ei.size new) } a w' /\
   au w' S γ' (.so [] d 0 new.length) v /\ (∀ t u, au w S γ t u -> au w' S γ' (T1.forget [(d, 0)] t) u) /\
   (new ≠ [] -> ∃ l, γ' [(d, 0)] = some l /\ l.sz = ei.size /\ ∀ (k : Nat) (u : Value), vals[k]? = some u -> w'.cell? ⟨l.b, l.off + k, none⟩ = some u) := by
 obtain ⟨dx, hdx, hni⟩ := yr hTy hxt
 obtain ⟨c, hc⟩ := Option.isSome_iff_exists.1 hc
 by_cases h0 : new.length = 0
 ·have hn : new = [] := List.eq_nil_of_length_eq_zero h0
  subst hn
  have hrun := yF (P := P) (ty := ty) hu hei hdx hni (sb := none) (n := 0) (cap := 0) (by simpa using hsrc) (Nat.le_refl _)
  have hdet : Det w S (.sl ei.size []) (fun _ => none) (.slice none 0 0) := Det.VU ⟨rfl, rfl⟩
  refine ⟨_, w, _, hrun, hR.Oy (q := []) (i := d) (f := 0) (x := .sl ei.size []) (hR.mem.rD hdet pk.En hc) rfl hc (fun _ _ => rfl) (Nat.le_refl _) hR.fr (fun _ _ _ _ hl => by cases hl)
   (fun _ hlt => absurd hlt (by omega)), .inr ⟨?_, rfl, rfl⟩, fun t u ht => au.forget (dB _ _ [] d 0) ht, fun hne => absurd rfl hne⟩
  have := dM γ [] d 0 (fun _ => none) []
  simpa using this
 ·have hsz : w.drew.heap.size = w.heap.size := rfl
  have hvl := hsrc.n
  have hrun := yE (P := P) (ty := ty) hu hei hdx hni (s := .slice none 0 0) (sb := none) (n := 0) (cap := 0) (olds := []) rfl hsrc (by omega) (by simpa using hle) hb (fun w' _ => by simp [Builtin.firstCells])
  rw [Nat.zero_add] at hrun
  have hcap := grownCap_le w (need := new.length) (old := 0) (e := e)
  obtain ⟨γ', r1, r2, r3⟩ := hR.drew.BC (x := .sl ei.size new) (rows := new) (vals := vals) (cells := (([] : List Value).toArray ++ vals.toArray ++ Builtin.zeroCells ei.zero.cells (grownCap w new.length 0 e - new.length)))
   (e := e) (lo := 0) (hi := 0) (cap := grownCap w new.length 0 e) (sz := ei.size) (d := d) (v := .slice (some ⟨w.heap.size, 0, none⟩) new.length (grownCap w new.length 0 e)) hd hc rfl
   ⟨hnew.1, fun k c v hc hv => Hdr.frame (w := w) (w' := w.drew) (fun _ hb => hb) (fun _ _ => rfl) (hnew.2 k c v hc hv)⟩ hrow hcap
   (fun k u hu => by rw [Ax, if_neg (by simp), if_pos (by simpa using (List.getElem?_eq_some_iff.1 hu).1)]; simpa using hu)
   (by
    simp only [Array.size_append, List.size_toArray, List.length_nil, sI, hz, hvl]
    rw [Nat.zero_add, <- Nat.add_mul]
    exact Nat.mul_le_mul_right _ (by omega)) (fun o _ => by omega) ⟨by rw [hsz], hcap, rfl⟩
  refine ⟨_, _, γ', hrun, r1, .inl ⟨_, r2, by rw [hsz], hcap⟩, fun t u ht => r3 t u (au.frame (w := w) (w' := w.drew) (fun _ hb => hb) (fun _ _ => rfl) ht), fun _ => ⟨_, r2, rfl, fun k u hu => ?_⟩⟩
  simp only [World.cell?, jr, Nat.zero_add]
  simp only [Option.isSome_none, Bool.false_eq_true, if_false]
  rw [Ax, if_neg (by simp), if_pos (by simpa using (List.getElem?_eq_some_iff.1 hu).1)]
  simpa using hu
theorem Wr (hTy : lT P Ty) (hR : Rel B S γ st a w) {t xt ty e : TypeId} {ei : jj} (hu : P.underlying t = some (.slice e)) (hei : ei.OK P e) (hxt : tc Ty xt = true) (hb : 0 < ei.bytes) {x s : Value} {rows new rs : Rows} {vals : List Value}
  {q : Path} {i f : Nat} (hq : ay st.m q = some rs) (hx : at2 rs i f = some (.sl ei.size rows)) (hs : Hdr w S (.sl ei.size rows) (γ (q ++ [(i, f)])) s)
  (hsrc : Src P ei.size x new.length vals w) (hnew : cK (fun c v => Hdr w S c none v) new.flatten vals) (hrow : ∀ r ∈ new, r.length = ei.size) (hle : (rows.length + new.length) * ei.bytes <= 140737488355328) {d : Nat} (hd : B.np <= d)
  (hc : (at2 (ju st.m q i f) d 0).isSome = true) (hz : ei.zero.cells.size = ei.size) :
  ∃ v w' γ', (Builtin.append_ #[t, xt] ty #[s, x]).run P w = .ok v w' /\
   Rel B S γ' { t := (st.t.map (TV.bX (T1.forget (q ++ [(i, f)])))).map (TV.bX (T1.forget [(d, 0)])), m := bz (ju st.m q i f) d 0 (.sl ei.size (rows ++ new)) } a w' /\
   au w' S γ' (.so [] d 0 (rows.length + new.length)) v /\ (∀ t u, au w S γ t u -> au w' S γ' ((T1.forget (q ++ [(i, f)]) t).forget [(d, 0)]) u) /\
   (new ≠ [] -> ∃ l, γ' [(d, 0)] = some l /\ l.sz = ei.size /\ ∀ (k : Nat) (u : Value), vals[k]? = some u -> w'.cell? ⟨l.b, l.off + rows.length * ei.size + k, none⟩ = some u) := by
 obtain ⟨dx, hdx, hni⟩ := yr hTy hxt
 have hkill : ju st.m q i f = bh st.m q (bz rs i f .dead) := by simp [ju, hq]
 rw [hkill] at hc ⊢
 have hdet := hR.mem.det hq hx hs
 have hothS : ∀ s' rs' l, cS (.sl ei.size rows) s' = some rs' -> γ (q ++ (i, f) :: s') = some l -> yN B l /\ l.b < w.heap.size /\ ¬ S l.b := fun s' rs' l hg hl => by
  have hg' : ay st.m (q ++ (i, f) :: s') = some rs' := by rw [ca hq hx]; exact hg
  refine ⟨hR.own _ _ _ (by simp) hg' hl, hR.mem.lt (by simp) hg' hl, ?_⟩
  have := hR.mem.loc _ _ (by simp) hg'
  rw [hl] at this
  exact this.1
 have hinjS : ∀ s' rs' l p rs0 l', cS (.sl ei.size rows) s' = some rs' -> γ (q ++ (i, f) :: s') = some l -> p ≠ [] -> ¬ q ++ [(i, f)] <+: p -> ay st.m p = some rs0 -> γ p = some l' -> l'.b ≠ l.b := by
  intro s' rs' l p rs0 l' hg hl hp hn hr hl' he
  have hg' : ay st.m (q ++ (i, f) :: s') = some rs' := by rw [ca hq hx]; exact hg
  have := hR.mem.inj p (q ++ (i, f) :: s') rs0 rs' l' l hp (by simp) hr hg' hl' hl he
  exact hn ⟨s', by rw [this]; simp⟩
 by_cases h0 : new.length = 0
 ·have hn : new = [] := List.eq_nil_of_length_eq_zero h0
  subst hn
  have hsv : ∃ sb n cap, s = .slice sb n cap /\ n <= cap := by
   cases hl : γ (q ++ [(i, f)]) with
   | none => rw [hl] at hs; obtain ⟨_, rfl⟩ := hs; exact ⟨_, _, _, rfl, Nat.le_refl _⟩
   | some l => rw [hl] at hs; obtain ⟨rfl, h1, _⟩ := hs; exact ⟨_, _, _, rfl, h1⟩
  obtain ⟨sb, n, cap, rfl, hcap⟩ := hsv
  have hrun := yF (P := P) (ty := ty) hu hei hdx hni (sb := sb) (n := n) (cap := cap) (by simpa using hsrc) hcap
  obtain ⟨γ', r1, r2, r3⟩ := hR.Kf (w' := w) (x' := .sl ei.size rows) (δ' := fun s => γ (q ++ (i, f) :: s)) (v' := .slice sb n cap) hq hx hd hc (fun _ _ => rfl) (Nat.le_refl _) hR.fr (fun _ _ _ _ _ _ _ => rfl) hdet
   (fun s' rs' l p rs0 l' hg hl hp hn hr hl' => hinjS s' rs' l p rs0 l' hg hl hp hn hr hl') (fun s' rs' l hg hl => (hothS s' rs' l hg hl).1)
  refine ⟨_, w, γ', hrun, by simpa using r1, ?_, r3, fun hne => absurd rfl hne⟩
  have hr2 := r2 []
  cases hl : γ (q ++ [(i, f)]) with
  | none =>
   rw [hl] at hs
   obtain ⟨h1, h2⟩ := hs
   exact .inr ⟨by simpa [hl] using hr2, by simp [h1], h2⟩
  | some l =>
   rw [hl] at hs
   obtain ⟨h1, h2, _⟩ := hs
   exact .inl ⟨l, by simpa [hl] using hr2, by simpa using h1, by simpa using h2⟩
 ·have hvl := hsrc.n
  have hpos : 0 < new.length := by omega
  have hS : ∀ b, S b -> b < w.heap.size := hR.lt
  have hnewc : ∀ i' f' c', at2 new i' f' = some c' -> i' * ei.size + f' < vals.length /\ ∃ u, vals[i' * ei.size + f']? = some u /\ Hdr w S c' none u := by
   intro i' f' c' hcc
   obtain ⟨u, h1, h2⟩ := hnew.get (yV hrow hcc)
   exact ⟨(List.getElem?_eq_some_iff.1 h1).1, u, h1, h2⟩
  have hcase : (γ (q ++ [(i, f)]) = none /\ rows = [] /\ s = .slice none 0 0) \/ ∃ l, γ (q ++ [(i, f)]) = some l /\ s = .slice (some ⟨l.b, l.off, none⟩) rows.length l.cap /\ rows.length <= l.cap /\ l.sz = ei.size := by
   cases hl : γ (q ++ [(i, f)]) with
   | none => rw [hl] at hs; exact .inl ⟨rfl, hs.1, hs.2⟩
   | some l => rw [hl] at hs; exact .inr ⟨l, rfl, hs.1, hs.2.1, hs.2.2⟩
  have hrows : ∀ r ∈ rows, r.length = ei.size := by
   rcases hcase with ⟨_, rfl, _⟩ | ⟨l, hl, _, _, hsz⟩
   ·simp
   ·have := hdet.loc [] rows (by simp [cS, C.rows, ay])
    rw [hl] at this
    intro r hr
    rw [<- hsz]
    exact this.2.2.1 r hr
  have hoc : ∀ l, γ (q ++ [(i, f)]) = some l -> ∀ i' f' c', at2 rows i' f' = some c' -> ∃ u, w.cell? ⟨l.b, l.off + i' * l.sz + f', none⟩ = some u /\ Hdr w S c' (γ (q ++ (i, f) :: [(i', f')])) u := by
   intro l hl i' f' c' hcc
   exact hdet.cell [] rows l i' f' c' (by simp [cS, C.rows, ay]) hl hcc
  have hgrow : ∀ (sb : Option Addr) (cap : Nat) (olds : List Value), s = .slice sb rows.length cap -> cap < rows.length + new.length -> olds.length = rows.length * ei.size ->
    (∀ w' : World, w'.heap = w.heap -> (Builtin.firstCells ei.size rows.length s).run P w' = .ok olds.toArray w') ->
    (∀ i' f' c', at2 rows i' f' = some c' -> ∃ u, olds[i' * ei.size + f']? = some u /\ Hdr w S c' (γ (q ++ (i, f) :: [(i', f')])) u) ->
    ∃ v w' γ', (Builtin.append_ #[t, xt] ty #[s, x]).run P w = .ok v w' /\
     Rel B S γ' { t := (st.t.map (TV.bX (T1.forget (q ++ [(i, f)])))).map (TV.bX (T1.forget [(d, 0)])), m := bz (bh st.m q (bz rs i f .dead)) d 0 (.sl ei.size (rows ++ new)) } a w' /\
     au w' S γ' (.so [] d 0 (rows.length + new.length)) v /\ (∀ t u, au w S γ t u -> au w' S γ' ((T1.forget (q ++ [(i, f)]) t).forget [(d, 0)]) u) /\
     (new ≠ [] -> ∃ l, γ' [(d, 0)] = some l /\ l.sz = ei.size /\ ∀ (k : Nat) (u : Value), vals[k]? = some u -> w'.cell? ⟨l.b, l.off + rows.length * ei.size + k, none⟩ = some u) := by
   intro sb cap olds hsv hlt holen hfirst hocell
   have hrun := yE (P := P) (ty := ty) hu hei hdx hni hsv hsrc hlt hle hb hfirst
   have hcap := grownCap_le w (need := rows.length + new.length) (old := cap) (e := e)
   generalize hG : grownCap w (rows.length + new.length) cap e = G at hrun hcap
   generalize hA : (olds.toArray ++ vals.toArray ++ Builtin.zeroCells ei.zero.cells (G - (rows.length + new.length))) = A at hrun
   have hAget : ∀ k, A[k]? = if k < olds.length then olds[k]? else if k < olds.length + vals.length then vals[k - olds.length]? else (Builtin.zeroCells ei.zero.cells (G - (rows.length + new.length)))[k - (olds.length + vals.length)]? := by
    intro k; rw [<- hA]; exact Ax
   have hAsize : A.size = G * ei.size := by
    rw [<- hA]
    simp only [Array.size_append, List.size_toArray, sI, hz, holen, hvl]
    rw [<- Nat.add_mul, <- Nat.add_mul]
    congr 1
    omega
   have hnewh := jr w.drew (.cells A e (0, 0))
   have hdsz : w.drew.heap.size = w.heap.size := rfl
   have hold : ∀ b, b < w.heap.size -> (w.drew.alloc (.cells A e (0, 0))).heap[b]? = w.heap[b]? := fun b hb => cH w.drew _ hb
   rw [hdsz] at hnewh
   have hdet' := Det.extend (w' := w.drew.alloc (.cells A e (0, 0))) (new := new) (v' := .slice (some ⟨w.heap.size, 0, none⟩) (rows.length + new.length) G) (l' := ⟨w.heap.size, 0, G, ei.size⟩) (cells := A) (e := e) (lo := 0) (hi := 0) hdet
    (fun b hb => hold b (hS b hb)) (fun i' f' s' rs' l hg hl => ⟨hold _ (hothS _ rs' l hg hl).2.1, fun e => by have := (hothS _ rs' l hg hl).2.1; simp only at e; omega⟩)
    (fun hb => Nat.lt_irrefl _ (hS _ hb)) (by rw [List.length_append]; exact hcap) (fun r hr => by rcases List.mem_append.1 hr with h | h; exact hrows r h; exact hrow r h) hnewh
    ⟨by rw [hAsize, Nat.zero_add]; exact Nat.le_refl _, .inl (Nat.zero_le _)⟩ (fun o _ _ => by omega)
    (fun i' f' c' hcc => by
     obtain ⟨u, h1, h2⟩ := hocell i' f' c' hcc
     refine ⟨u, ?_, h2⟩
     simp only [World.cell?, hnewh, Option.isSome_none, Bool.false_eq_true, if_false]
     rw [Nat.zero_add, hAget, if_pos (List.getElem?_eq_some_iff.1 h1).1]
     exact h1)
    (fun i' f' c' hcc => by
     obtain ⟨hk, u, h1, h2⟩ := hnewc i' f' c' hcc
     refine ⟨u, ?_, h2.frame (fun _ hb => hb) (fun b hb => hold b (hS b hb))⟩
     simp only [World.cell?, hnewh, Option.isSome_none, Bool.false_eq_true, if_false]
     rw [Nat.zero_add, Nat.add_mul, hAget, if_neg (by rw [holen]; omega), if_pos (by rw [holen]; omega), holen, show rows.length * ei.size + i' * ei.size + f' - rows.length * ei.size = i' * ei.size + f' by omega]
     exact h1)
    (by rw [List.length_append]) rfl
   obtain ⟨γ', r1, r2, r3⟩ := hR.Kf (w' := w.drew.alloc (.cells A e (0, 0))) hq hx hd hc (fun b hb => hold b (hS b hb)) (by show w.heap.size <= (w.heap.push _).size; rw [Array.size_push]; exact Nat.le_succ _) ((hR.fr.drew _).alloc _)
    (fun p rs0 l hp hn hr hl => hold _ (hR.mem.lt hp hr hl)) hdet'
    (fun s' rs' l p rs0 l' hg hl hp hn hr hl' => by
     cases s' with
     | nil =>
      simp only [kM, Option.some.injEq] at hl
      subst hl
      have := hR.mem.lt hp hr hl'
      simp only
      omega
     | cons y s' =>
      obtain ⟨i', f'⟩ := y
      simp only [kM] at hl
      split at hl
      ·rename_i hi'
       refine hinjS _ rs' l p rs0 l' ?_ hl hp hn hr hl'
       simpa [cS, C.rows, ay, ki, hi'] using hg
      ·cases hl)
    (fun s' rs' l hg hl => by
     cases s' with
     | nil =>
      simp only [kM, Option.some.injEq] at hl
      subst hl
      exact .inl hR.fr.size
     | cons y s' =>
      obtain ⟨i', f'⟩ := y
      simp only [kM] at hl
      split at hl
      ·rename_i hi'
       exact (hothS ((i', f') :: s') rs' l (by simpa [cS, C.rows, ay, ki, hi'] using hg) hl).1
      ·cases hl)
   have hg0 : γ' [(d, 0)] = some ⟨w.heap.size, 0, G, ei.size⟩ := by rw [r2 []]; rfl
   refine ⟨_, _, γ', hrun, r1, .inl ⟨_, hg0, rfl, hcap⟩, r3, fun _ => ⟨_, hg0, rfl, fun k u hk => ?_⟩⟩
   simp only [World.cell?, hnewh, Option.isSome_none, Bool.false_eq_true, if_false]
   have hk' := (List.getElem?_eq_some_iff.1 hk).1
   rw [Nat.zero_add, hAget, if_neg (by rw [holen]; omega), if_pos (by rw [holen]; omega), holen, show rows.length * ei.size + k - rows.length * ei.size = k by omega]
   exact hk
  rcases hcase with ⟨hl, rfl, rfl⟩ | ⟨l, hl, rfl, hcapl, hsz⟩
  ·exact hgrow none 0 [] rfl (by simpa using hpos) (by simp) (fun w' _ => by simp [Builtin.firstCells]) (fun i' f' c' hcc => by simp [at2] at hcc)
  ·have hg0 : ay st.m (q ++ [(i, f)]) = some rows := by rw [ca hq hx []]; simp [cS, C.rows, ay]
   have hov := hoc l hl
   have hfl : rows.flatten.length = rows.length * ei.size := dK hrows
   by_cases hroom : rows.length + new.length <= l.cap
   ·have hloc := hR.mem.loc _ _ (by simp) hg0
    rw [hl] at hloc
    obtain ⟨hSl, _, _, cells, el, lo, hi, hh, hsize, hfz⟩ := hloc
    rw [hsz] at hsize hfz
    have hend : rows.length * ei.size + vals.length <= l.cap * ei.size := by rw [hvl, <- Nat.add_mul]; exact Nat.mul_le_mul_right _ hroom
    obtain ⟨w', cells', g1, g2, g3, g4, g5, g6, g7, g8, g9⟩ := yG P vals (l.off + rows.length * ei.size) 0 cells w hh (by omega) (fun j h1 h2 => hfz j (by omega) (by omega)) hsrc.plain
    have hrun := Ki (P := P) (ty := ty) (n := rows.length) (cap := l.cap) hu hei hdx hni hsrc hroom g1
    have hne : ∀ b, S b -> b ≠ l.b := fun b hb e => hSl (e ▸ hb)
    have hSw : ∀ b, S b -> w'.heap[b]? = w.heap[b]? := fun b hb => g5 b (hne b hb)
    have hc4 : ∀ o, w'.cell? ⟨l.b, o, none⟩ = if l.off + rows.length * ei.size <= o /\ o < l.off + rows.length * ei.size + vals.length then vals[o - (l.off + rows.length * ei.size)]? else w.cell? ⟨l.b, o, none⟩ := by
     intro o
     simp only [World.cell?, g2, hh, Option.isSome_none, Bool.false_eq_true, if_false]
     rw [g4]
     simp only [Nat.add_zero]
    have hrowlt : ∀ i' f' c', at2 rows i' f' = some c' -> i' * ei.size + f' < rows.length * ei.size := fun i' f' c' hcc => by
     have := (List.getElem?_eq_some_iff.1 (yV hrows hcc)).1
     rwa [hfl] at this
    have hdet' := Det.extend (w' := w') (new := new) (v' := .slice (some ⟨l.b, l.off, none⟩) (rows.length + new.length) l.cap) (l' := l) (cells := cells') (e := el) (lo := lo) (hi := hi) hdet hSw
     (fun i' f' s' rs' l1 hg hl1 => by
      have hneb : l1.b ≠ l.b := fun e => by
       have := hdet.inj ((i', f') :: s') [] rs' rows l1 l hg (by simp [cS, C.rows, ay]) hl1 hl e
       cases this
      exact ⟨g5 _ hneb, hneb⟩)
     hSl (by rw [List.length_append]; exact hroom) (fun r hr => by rw [hsz]; rcases List.mem_append.1 hr with h | h; exact hrows r h; exact hrow r h) g2 (by rw [g3, hsz]; exact hsize) (by rw [hsz]; exact hfz)
     (fun i' f' c' hcc => by
      obtain ⟨u, h1, h2⟩ := hov i' f' c' hcc
      have := hrowlt i' f' c' hcc
      refine ⟨u, ?_, h2⟩
      rw [hc4, if_neg (by rw [hsz]; omega)]
      exact h1)
     (fun i' f' c' hcc => by
      obtain ⟨hk, u, h1, h2⟩ := hnewc i' f' c' hcc
      refine ⟨u, ?_, h2.frame (fun _ hb => hb) hSw⟩
      rw [hc4, hsz, Nat.add_mul, if_pos (by omega), show l.off + (rows.length * ei.size + i' * ei.size) + f' - (l.off + rows.length * ei.size) = i' * ei.size + f' by omega]
      exact h1)
     (by rw [List.length_append]) hsz
    have hfr : Frame B w' := by
     refine ⟨g6.trans hR.fr.os, g7.trans hR.fr.tape, g8.trans hR.fr.output, by rw [g9]; exact hR.fr.size, fun b hb hF => ?_, fun b cs e' z hbb => ?_⟩
     ·by_cases hbl : b = l.b
      ·subst hbl
       by_cases hv0 : vals.length = 0
       ·have he : cells' = cells := by
         apply Array.ext_getElem?
         intro j
         rw [g4, if_neg (by omega)]
        rw [g2, he, <- hh]
        exact hR.fr.all l.b hb hF
       ·rcases hR.own _ _ _ (by simp) hg0 hl with h | h
        ·omega
        ·exact absurd (h.2 l.off (Nat.le_refl _) (by rw [hsz]; omega)) (hF _)
      ·rw [g5 b hbl]; exact hR.fr.all b hb hF
     ·obtain ⟨cs1, k1, k2, k3⟩ := hR.fr.cells b cs e' z hbb
      by_cases hbl : b = l.b
      ·subst hbl
       rw [hh] at k1
       cases k1
       refine ⟨cells', g2, by rw [g3]; exact k2, fun o ho => ?_⟩
       rw [g4]
       simp only [Nat.add_zero]
       rw [if_neg, k3 o ho]
       intro ⟨h1, h2⟩
       rcases hR.own _ _ _ (by simp) hg0 hl with h | h
       ·have := bT hbb; omega
       ·exact ho (h.2 o (by omega) (by rw [hsz]; omega))
      ·exact ⟨cs1, by rw [g5 b hbl]; exact k1, k2, k3⟩
    obtain ⟨γ', r1, r2, r3⟩ := hR.Kf (w' := w') hq hx hd hc hSw (by rw [g9]; exact Nat.le_refl _) hfr
     (fun p rs0 l1 hp hn hr hl1 => g5 _ (hinjS [] rows l p rs0 l1 (by simp [cS, C.rows, ay]) hl hp hn hr hl1)) hdet'
     (fun s' rs' l1 p rs0 l' hg hl1 hp hn hr hl' => by
      cases s' with
      | nil =>
       simp only [kM, Option.some.injEq] at hl1
       subst hl1
       exact hinjS [] rows l p rs0 l' (by simp [cS, C.rows, ay]) hl hp hn hr hl'
      | cons y s' =>
       obtain ⟨i', f'⟩ := y
       simp only [kM] at hl1
       split at hl1
       ·rename_i hi'
        refine hinjS _ rs' l1 p rs0 l' ?_ hl1 hp hn hr hl'
        simpa [cS, C.rows, ay, ki, hi'] using hg
       ·cases hl1)
     (fun s' rs' l1 hg hl1 => by
      cases s' with
      | nil =>
       simp only [kM, Option.some.injEq] at hl1
       subst hl1
       exact (hothS [] rows l (by simp [cS, C.rows, ay]) hl).1
      | cons y s' =>
       obtain ⟨i', f'⟩ := y
       simp only [kM] at hl1
       split at hl1
       ·rename_i hi'
        exact (hothS ((i', f') :: s') rs' l1 (by simpa [cS, C.rows, ay, ki, hi'] using hg) hl1).1
       ·cases hl1)
    have hgl : γ' [(d, 0)] = some l := by rw [r2 []]; rfl
    refine ⟨_, w', γ', hrun, r1, .inl ⟨l, hgl, rfl, hroom⟩, r3, fun _ => ⟨l, hgl, hsz, fun k u hk => ?_⟩⟩
    have hk' := (List.getElem?_eq_some_iff.1 hk).1
    rw [hc4, if_pos (by omega), show l.off + rows.length * ei.size + k - (l.off + rows.length * ei.size) = k by omega]
    exact hk
   ·obtain ⟨olds, o1, o2, o3⟩ := GF hR (by simp) hg0 hl 0 rows.length
    simp only [List.drop_zero, List.take_length, Nat.zero_mul, Nat.add_zero] at o1 o2 o3
    have holen : olds.length = rows.length * ei.size := by rw [<- o1.1, hfl]
    refine hgrow (some ⟨l.b, l.off, none⟩) l.cap olds rfl (by omega) holen (fun w' hw => ?_) (fun i' f' c' hcc => ?_)
    ·simp only [Builtin.firstCells]
     exact run_loadCells holen (fun k v hk => by
      have := o3 k v hk
      unfold World.cell? at this ⊢
      rw [hw]
      exact this)
    ·obtain ⟨u, h1, h2⟩ := hov i' f' c' hcc
     obtain ⟨u', h3, _⟩ := o1.get (yV hrows hcc)
     have := o3 _ _ h3
     rw [hsz, Nat.add_assoc] at h1
     rw [h1] at this
     cases this
     exact ⟨u, h3, h2⟩
end
end Go.Mv
namespace Go.Mv
open Go.RowKit
section
variable {P : Program} {Ty : Types} {B : da} {S : Nat -> Prop} {γ : Path -> Option Loc} {st : St} {a : Act} {w : World}
theorem MP (hTy : lT P Ty) (hR : Rel B S γ st a w) {o : Oper} {t xt : TypeId} {s x : Operand} (ho : o.op = .call { callee := .builtin .append, args := #[s, x], argTypes := #[t, xt] }) {d : Nat} {tv : TV} {st' : St}
  (h : qw Ty B.np st d t xt s x = some (tv, st')) : ∃ v w' γ', (execOp a.eval o).run P w = .ok (.value v) w' /\ Rel B S γ' st' a w' /\ aD w' S γ' tv v := by
 have hexec : ∀ v w', (Builtin.append_ #[t, xt] o.type #[a.eval s, a.eval x]).run P w = .ok v w' -> (execOp a.eval o).run P w = .ok (.value v) w' := by
  intro v w' hr
  simp [execOp, ho, resolve, invoke, builtin, hr]
 unfold qw at h
 split at h
 ·cases h
 ·rename_i ti hti
  split at h
  ·rename_i e hk
   split at h
   ·cases h
   ·rename_i ei hei
    split at h
    ·rename_i src rows sz new ts hto hap
     split at h
     ·rename_i hc
      obtain ⟨hxt, hb, hle, hd, hz⟩ := hc
      have hu : P.underlying t = some (.slice e) := by have := (hTy _ _ hti).1; rw [hk] at this; exact this
      have hei' := hTy _ _ hei
      obtain ⟨vals, hsrc, hnew, hrow, hts⟩ := Ac (P := P) hR hap (hR.evT x)
      have hadopt : ∀ (k : Nat) (γ1 : Path -> Option Loc) (st1 : St) (w1 : World) (g : T1 -> T1), Rel B S γ1 st1 a w1 -> (∀ t u, au w S γ t u -> au w1 S γ1 (g t) u) ->
        (new ≠ [] -> ∃ l, γ1 [(d, 0)] = some l /\ l.sz = ei.size /\ ∀ (j : Nat) (u : Value), vals[j]? = some u -> w1.cell? ⟨l.b, l.off + k * ei.size + j, none⟩ = some u) ->
        ∀ st2, bo st1 [(d, 0)] k 0 (ts.map g) = some st2 -> ∀ n v, au w1 S γ1 (.so [] d 0 n) v -> ∃ γ2, Rel B S γ2 st2 a w1 /\ au w1 S γ2 (.so [] d 0 n) v := by
       intro k γ1 st1 w1 g hR1 hg hcell st2 ha n v hv
       by_cases hts0 : ts = []
       ·subst hts0
        unfold bo at ha
        cases ha
        exact ⟨γ1, hR1, hv⟩
       ·have hall := hts.resolve_left hts0
        have hne : new ≠ [] := by
         rintro rfl
         have h1 := hsrc.n
         have h2 := hall.1
         simp at h1
         rw [h1] at h2
         exact hts0 (List.eq_nil_of_length_eq_zero h2)
        obtain ⟨l, hl, hsz, hcl⟩ := hcell hne
        obtain ⟨γ2, q1, q2⟩ := Rel.bo (a := a) (i := k) (p := [(d, 0)]) (l := l) (by simp) (ts.map g) vals 0 γ1 _ _ hR1 (hall.ke _ hg) hl
         (fun j u hu => by rw [hsz, Nat.zero_add]; exact hcl j u hu) ha
        refine ⟨γ2, q1, ?_⟩
        rcases hv with ⟨l', hl', h1, h2⟩ | ⟨h0, _, _⟩
        ·simp only [List.nil_append] at hl'
         rw [hl] at hl'
         cases hl'
         exact .inl ⟨l, q2, h1, h2⟩
        ·simp only [List.nil_append] at h0
         rw [hl] at h0
         cases h0
      have hsv := hR.evT s
      rcases Rh hto with ⟨rfl, rfl, ht⟩ | ⟨q, i, f, rs, rfl, hq, hx, ht⟩
      ·simp only [] at h
       split at h
       ·rename_i hd0
        rw [ht] at hsv
        have hs0 := jC hsv
        obtain ⟨v, w', γ1, r0, r1, r2, r3, r4⟩ := Wq (ty := o.type) hTy hR hu hei' hxt hb hsrc hnew hrow (by simpa using hle) hd hd0 hz
        cases ha : bo { t := st.t.map (TV.bX (T1.forget [(d, 0)])), m := bz st.m d 0 (.sl ei.size new) } [(d, 0)] 0 0 (ts.map (T1.forget [(d, 0)])) with
        | none => rw [ha] at h; cases h
        | some st2 =>
         rw [ha] at h
         cases h
         obtain ⟨γ2, q1, q2⟩ := hadopt 0 γ1 _ w' _ r1 r3 (fun hne => by obtain ⟨l, h1, h2, h3⟩ := r4 hne; exact ⟨l, h1, h2, fun j u hu => by rw [Nat.zero_mul, Nat.add_zero]; exact h3 j u hu⟩) _ ha _ v r2
         exact ⟨v, w', γ2, hexec v w' (by rw [hs0]; exact r0), q1, q2⟩
       ·cases h
      ·simp only [] at h
       split at h
       ·rename_i hd0
        obtain ⟨hd0, hsz⟩ := hd0
        subst hsz
        rw [ht] at hsv
        have hs : Hdr w S (.sl ei.size rows) (γ (q ++ [(i, f)])) (a.eval s) := by
         obtain ⟨y, hy⟩ := hR.mem.mC hq hx
         rcases hsv with ⟨l, hl, h1, h2⟩ | ⟨hl, h1, h2⟩
         ·rw [hl] at hy ⊢
          exact ⟨h1, h2, hy.2.2⟩
         ·rw [hl]
          exact ⟨List.eq_nil_of_length_eq_zero h1, h2⟩
        obtain ⟨v, w', γ1, r0, r1, r2, r3, r4⟩ := Wr (ty := o.type) hTy hR hu hei' hxt hb hq hx hs hsrc hnew hrow hle hd hd0 hz
        cases ha : bo { t := (st.t.map (TV.bX (T1.forget (q ++ [(i, f)])))).map (TV.bX (T1.forget [(d, 0)])), m := bz (ju st.m q i f) d 0 (.sl ei.size (rows ++ new)) } [(d, 0)] rows.length 0
          (ts.map fun t => (T1.forget (q ++ [(i, f)]) t).forget [(d, 0)]) with
        | none => rw [ha] at h; cases h
        | some st2 =>
         rw [ha] at h
         cases h
         obtain ⟨γ2, q1, q2⟩ := hadopt rows.length γ1 _ w' _ r1 r3 r4 _ ha _ v r2
         exact ⟨v, w', γ2, hexec v w' r0, q1, q2⟩
       ·cases h
     ·cases h
    ·cases h
  ·cases h
end
def step (Ty : Types) (np : Nat) (st : St) (o : Oper) : Option St :=
 match o.op with
 | .store t p x => (Kz Ty st t p x).map fun st' => st'.put o.dst (.one .unk)
 | .call { callee := .builtin .append, args, argTypes } => match args.toList, argTypes.toList, o.dst with
  | [s, x], [t, xt], some d => (qw Ty np st d t xt s x).map fun (tv, st') => st'.put (some d) tv
  | _, _, _ => none
 | op => match dR Ty st op with
  | some tv => some (st.put o.dst tv)
  | none => match o.dst with
   | some d => (Ce Ty np st d op).map fun (tv, st') => st'.put (some d) tv
   | none => none
theorem Hk {P : Program} {Ty : Types} {B : da} {st st' : St} {a : Act} {w : World} (hTy : lT P Ty) (hR : lz B st a w) {o : Oper} (h : step Ty B.np st o = some st') :
  ∃ nx v w', (execOp a.eval o).run P w = .ok nx w' /\ (nx = .value v \/ nx = .skip /\ v = undef) /\ lz B st' (a.put o.dst v) w' := by
 obtain ⟨S, γ, hR, hSn⟩ := hR
 unfold step at h
 split at h
 ·rename_i t p x ho
  cases hs : Kz Ty st t p x with
  | none => rw [hs] at h; cases h
  | some st1 =>
   rw [hs] at h
   cases h
   obtain ⟨w', γ', h1, h2⟩ := Tz (P := P) hTy hR ho hs
   exact ⟨.skip, undef, w', h1, .inr ⟨rfl, rfl⟩, S, γ', h2.put (t := .one .unk) (v := undef) trivial o.dst, hSn⟩
 ·rename_i args argTypes ho
  split at h
  ·rename_i s x t xt d hargs hts hd
   cases hs : qw Ty B.np st d t xt s x with
   | none => rw [hs] at h; cases h
   | some y =>
    obtain ⟨tv, st1⟩ := y
    rw [hs] at h
    cases h
    have e1 : args = #[s, x] := by cases args; simp_all
    have e2 : argTypes = #[t, xt] := by cases argTypes; simp_all
    obtain ⟨v, w', γ', h1, h2, h3⟩ := MP (P := P) hTy hR (by rw [ho, e1, e2]) hs
    exact ⟨.value v, v, w', h1, .inl rfl, S, γ', by rw [hd]; exact h2.put h3 (some d), hSn⟩
  ·cases h
 ·rename_i h1 h2
  split at h
  ·rename_i tv hp
   cases h
   obtain ⟨v, h1, h2⟩ := Tv (P := P) hTy hR hp
   exact ⟨.value v, v, w, h1, .inl rfl, S, γ, hR.put h2 o.dst, hSn⟩
  ·split at h
   ·rename_i d hd
    cases hs : Ce Ty B.np st d o.op with
    | none => rw [hs] at h; cases h
    | some y =>
     obtain ⟨tv, st1⟩ := y
     rw [hs] at h
     cases h
     obtain ⟨v, w', γ', h1, h2, h3, _⟩ := Kx (P := P) hTy hR hs
     exact ⟨.value v, v, w', h1, .inl rfl, S, γ', by rw [hd]; exact h2.put h3 (some d), hSn⟩
   ·cases h
end Go.Mv
