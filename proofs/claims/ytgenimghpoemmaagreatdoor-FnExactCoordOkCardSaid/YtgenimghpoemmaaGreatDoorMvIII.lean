/- A walk over what is told is a walk of the program: calls, control, drawn regions, arguments opened; whatever the program and the state. -/
import Derived.Test.YtgenimghpoemmaaGreatDoorMvII
import Derived.OrdersHeld
import Derived.IntWalk
import Derived.WalkKit
import Derived.ChangeArms
import Derived.ChangeOld
import Derived.DataReads
import Derived.SizedLaws
import Derived.Lib.Join
import Derived.Laws.StructEq
set_option linter.unusedVariables false
set_option linter.unusedSimpArgs false
namespace Go.Mv
open Go.RowKit
section
variable {P : Program} {B : da} {S : Nat -> Prop} {γ : Path -> Option Loc} {st : St} {a : Act} {w : World}
theorem NF {sz : Nat} : ∀ {rows : Rows}, (∀ r ∈ rows, r.length = sz) -> ∀ {k : Nat} {c : C}, rows.flatten[k]? = some c -> ∃ i f, k = i * sz + f /\ at2 rows i f = some c
 | [], _, k, c, h => by simp at h
 | r :: rows, hs, k, c, h => by
  have hr : r.length = sz := hs r (by simp)
  rw [List.flatten_cons] at h
  by_cases hk : k < r.length
  ·rw [List.getElem?_append_left hk] at h
   exact ⟨0, k, by simp, by simpa [at2] using h⟩
  ·rw [List.getElem?_append_right (by omega)] at h
   obtain ⟨i, f, h1, h2⟩ := NF (fun r' h' => hs r' (by simp [h'])) h
   exact ⟨i + 1, f, by rw [Nat.succ_mul]; omega, by simpa [at2] using h2⟩
theorem bG.SE {S' : Nat -> Prop} : ∀ {cs : List C} {xs : List Value}, cs.length = xs.length -> (∀ (k : Nat) (c : C) (x : Value), cs[k]? = some c -> xs[k]? = some x -> gd w S' c x) -> bG w S' cs xs
 | [], xs, hl, _ => by have := List.eq_nil_of_length_eq_zero hl.symm; subst this; exact .nil
 | c :: cs, [], hl, _ => by simp at hl
 | c :: cs, x :: xs, hl, h => .cons (h 0 c x rfl rfl) (bG.SE (by simpa using hl) fun k c' x' hc hx => h (k + 1) c' x' (by simpa using hc) (by simpa using hx))
theorem Uk {rows : Rows} {i f : Nat} {c : C} (h : at2 rows i f = some c) : SizeOf.sizeOf c < SizeOf.sizeOf rows := by
 unfold at2 at h
 cases hr : rows[i]? with
 | none => rw [hr] at h; cases h
 | some r =>
  rw [hr] at h
  have h1 := List.sizeOf_lt_of_mem (List.mem_of_getElem? hr)
  have h2 := List.sizeOf_lt_of_mem (List.mem_of_getElem? h)
  omega
theorem Det.sub {x c : C} {δ : Path -> Option Loc} {v u : Value} {rows : Rows} {i f : Nat} (h : Det w S x δ v) (hx : x.rows = some rows) (hc : at2 rows i f = some c) (hu : Hdr w S c (δ [(i, f)]) u) :
  Det w S c (fun s => δ ((i, f) :: s)) u := by
 have hg : ∀ s, cS x ((i, f) :: s) = cS c s := fun s => by simp [cS, hx, ay, hc]
 refine ⟨hu, fun s rs hs => h.loc _ rs (by rw [hg]; exact hs), fun s rs l i' f' c' hs hl hc' => ?_, fun s s' rs rs' l l' hs hs' hl hl' hb => ?_⟩
 ·obtain ⟨y, h1, h2⟩ := h.cell ((i, f) :: s) rs l i' f' c' (by rw [hg]; exact hs) hl hc'
  exact ⟨y, h1, h2⟩
 ·have := h.inj _ _ rs rs' l l' (by rw [hg]; exact hs) (by rw [hg]; exact hs') hl hl' hb
  simpa using this
theorem Det.rep {S' : Nat -> Prop} (hS : ∀ b, S b -> S' b) (c : C) (δ : Path -> Option Loc) (v : Value) (h : Det w S c δ v) (hO : ∀ s rows l, cS c s = some rows -> δ s = some l -> S' l.b) : gd w S' c v := by
 cases c with
 | v u => obtain ⟨rfl, hp⟩ := h.hd; exact .v hp
 | fz c => exact .fz (gd.frame hS (fun _ _ => rfl) h.hd)
 | fn f caps => exact gd.frame hS (fun _ _ => rfl) h.hd
 | dead => exact .dead h.hd
 | sl sz rows =>
  have hd := h.hd
  cases hl : δ [] with
  | none => rw [hl] at hd; obtain ⟨rfl, rfl⟩ := hd; exact .nil
  | some l =>
   rw [hl] at hd
   obtain ⟨rfl, hcap, hsz⟩ := hd
   have hloc := h.loc [] rows rfl
   rw [hl] at hloc
   obtain ⟨_, _, hrow, _⟩ := hloc
   rw [hsz] at hrow
   have hcell : ∀ k c, rows.flatten[k]? = some c -> ∃ u, w.cell? ⟨l.b, l.off + k, none⟩ = some u /\ gd w S' c u := by
    intro k c hk
    obtain ⟨i, f, rfl, hc⟩ := NF hrow hk
    obtain ⟨u, h1, h2⟩ := h.cell [] rows l i f c rfl hl hc
    have hlt : SizeOf.sizeOf c < SizeOf.sizeOf (C.sl sz rows) := by have := Uk hc; simp; omega
    refine ⟨u, by rw [<- h1, hsz, Nat.add_assoc], Det.rep hS c (fun s => δ ((i, f) :: s)) u (h.sub rfl hc h2) fun s rs l' hg hl' => hO ((i, f) :: s) rs l' (by simpa [cS, C.rows, ay, hc] using hg) hl'⟩
   refine .sl (vals := (List.range rows.flatten.length).map fun k => (w.cell? ⟨l.b, l.off + k, none⟩).getD undef) (hO [] rows l rfl hl) hrow (bG.SE (by simp) fun k c x hc hx => ?_) (fun k x hx => ?_) hcap
   ·obtain ⟨u, h1, h2⟩ := hcell k c hc
    have hk := (List.getElem?_eq_some_iff.1 hc).1
    rw [List.getElem?_map, List.getElem?_range hk] at hx
    simp [h1] at hx
    subst hx
    exact h2
   ·have hk : k < rows.flatten.length := by have := (List.getElem?_eq_some_iff.1 hx).1; simpa using this
    obtain ⟨u, h1, _⟩ := hcell k _ (List.getElem?_eq_getElem hk)
    rw [List.getElem?_map, List.getElem?_range hk] at hx
    simp [h1] at hx
    subst hx
    exact h1
 | bx row =>
  have hd := h.hd
  cases hl : δ [] with
  | none => rw [hl] at hd; exact hd.elim
  | some l =>
   rw [hl] at hd
   cases hd
   have hcell : ∀ (k : Nat) (c : C), row[k]? = some c -> ∃ u, w.cell? ⟨l.b, l.off + k, none⟩ = some u /\ gd w S' c u := by
    intro k c hk
    have hc : at2 [row] 0 k = some c := by simpa [at2] using hk
    obtain ⟨u, h1, h2⟩ := h.cell [] [row] l 0 k c rfl hl hc
    have hlt : SizeOf.sizeOf c < SizeOf.sizeOf (C.bx row) := by have := List.sizeOf_lt_of_mem (List.mem_of_getElem? hk); simp; omega
    refine ⟨u, by simpa using h1, Det.rep hS c (fun s => δ ((0, k) :: s)) u (h.sub rfl hc h2) fun s rs l' hg hl' => hO ((0, k) :: s) rs l' (by simpa [cS, C.rows, ay, hc] using hg) hl'⟩
   refine .bx (vals := (List.range row.length).map fun k => (w.cell? ⟨l.b, l.off + k, none⟩).getD undef) (hO [] [row] l rfl hl) (bG.SE (by simp) fun k c x hc hx => ?_) (fun k x hx => ?_)
   ·obtain ⟨u, h1, h2⟩ := hcell k c hc
    have hk := (List.getElem?_eq_some_iff.1 hc).1
    rw [List.getElem?_map, List.getElem?_range hk] at hx
    simp [h1] at hx
    subst hx
    exact h2
   ·have hk : k < row.length := by have := (List.getElem?_eq_some_iff.1 hx).1; simpa using this
    obtain ⟨u, h1, _⟩ := hcell k _ (List.getElem?_eq_getElem hk)
    rw [List.getElem?_map, List.getElem?_range hk] at hx
    simp [h1] at hx
    subst hx
    exact h1
 termination_by SizeOf.sizeOf c
end
end Go.Mv
namespace Go.Mv
open Go.RowKit
def bJ (d : Nat) : Path -> Bool
 | [] => false
 | (i, _) :: _ => i == d
def eY (d : Nat) : Path -> Path
 | [] => []
 | (_, f) :: s => (d, f) :: s
def T1.sH (d : Nat) : T1 -> T1
 | .pl p i f => if bJ d p then .unk else .pl p i f
 | .so q i f n => if bJ d (q ++ [(i, f)]) then .unk else .so q i f n
 | .sp p lo n => if bJ d p then .unk else .sp p lo n
 | t => t
def T1.shift (d : Nat) : T1 -> T1
 | .pl p i f => if bJ 0 p then .pl (eY d p) i f else .unk
 | .so [] i f n => if i = 0 then .so [] d f n else .unk
 | .so (x :: q) i f n => if bJ 0 (x :: q) then .so (eY d (x :: q)) i f n else .unk
 | .sp p lo n => if bJ 0 p then .sp (eY d p) lo n else .unk
 | t => t
structure Ret (w : World) (S : Nat -> Prop) (w' : World) (res : TV) (row : List C) (v : Value) : Prop where
 below : Below w.heap.size w w'
 ex : ∃ S' γ, (∀ b, S b -> S' b) /\ (∀ b, S' b -> S b \/ w.heap.size <= b) /\ (∀ b, S' b -> b < w'.heap.size) /\ bf w' S' [row] γ /\ aD w' S' γ res v /\
  ∀ q rows l, q ≠ [] -> ay [row] q = some rows -> γ q = some l -> w.heap.size <= l.b
def ab (P : Program) (f : FuncId) (args : List TV) (res : TV) (row : List C) : Prop :=
 ∀ (w : World) (S : Nat -> Prop) (vals : List Value), (∀ b, S b -> b < w.heap.size) -> cK (aD w S fun _ => none) args vals ->
  Calls P f vals.toArray w fun e w' => ∃ v, e = .returned v /\ Ret w S w' res row v
def vf : List C -> List C
 | [] => [.dead]
 | r => r
def St.dd (st : St) (d : Nat) (res : TV) (row : List C) : St :=
 { t := (st.t.map (TV.bX (T1.sH d))).set d (res.bX (T1.shift d)), m := st.m.set d (vf row) }
def fE (γ γr : Path -> Option Loc) (d : Nat) : Path -> Option Loc := fun p => if bJ d p then γr (eY 0 p) else γ p
section
variable {P : Program} {B : da} {S : Nat -> Prop} {γ : Path -> Option Loc} {st : St} {a : Act} {w : World}
theorem vl {d : Nat} {q s : Path} (h : q ≠ []) : bJ d (q ++ s) = bJ d q := by
 cases q with
 | nil => exact absurd rfl h
 | cons x q => rfl
theorem vD {d : Nat} {q s : Path} (h : q ≠ []) : eY d (q ++ s) = eY d q ++ s := by
 cases q with
 | nil => exact absurd rfl h
 | cons x q => rfl
theorem Ad {m : Rows} {d : Nat} {row : List C} (hd : d < m.length) (i f : Nat) : at2 (m.set d row) i f = if i = d then row[f]? else at2 m i f := by
 unfold at2
 by_cases h : i = d
 ·subst h; simp [hd]
 ·rw [if_neg h, List.getElem?_set_ne (by omega)]
theorem ov {m : Rows} {d : Nat} {row : List C} (hd : d < m.length) {q : Path} (hq : q ≠ []) : ay (m.set d row) q = if bJ d q then ay [row] (eY 0 q) else ay m q := by
 cases q with
 | nil => exact absurd rfl hq
 | cons x q =>
  obtain ⟨i, f⟩ := x
  simp only [ay, Ad hd, bJ, eY, beq_iff_eq]
  split
  ·simp [at2]
  ·rfl
theorem QJ {d : Nat} {q q' : Path} (h : bJ d q = true) (h' : bJ d q' = true) (e : eY 0 q = eY 0 q') : q = q' := by
 cases q with
 | nil => simp [bJ] at h
 | cons x q =>
  cases q' with
  | nil => simp [bJ] at h'
  | cons y q' =>
   obtain ⟨i, f⟩ := x
   obtain ⟨i', f'⟩ := y
   simp [bJ] at h h'
   simp [eY] at e
   rw [h, h', e.1, e.2]
theorem eZ {d : Nat} {q : Path} (h : bJ d q = true) : eY 0 q ≠ [] := by
 cases q with
 | nil => simp [bJ] at h
 | cons x q => simp [eY]
theorem bf.setRow {mem : Rows} {row : List C} {γr : Path -> Option Loc} {d : Nat} (h : bf w S mem γ) (hr : bf w S [row] γr) (hd : d < mem.length)
  (hap : ∀ q rows l q' rows' l', q ≠ [] -> ay mem q = some rows -> γ q = some l -> q' ≠ [] -> ay [row] q' = some rows' -> γr q' = some l' -> l.b ≠ l'.b) :
  bf w S (mem.set d row) (fE γ γr d) := by
 refine ⟨fun q rows hq hg => ?_, fun q rows l i f c hq hg hl hc => ?_, fun i f c hc => ?_, fun q q' rows rows' l l' hq hq' hg hg' hl hl' hb => ?_⟩
 ·rw [ov hd hq] at hg
  unfold fE
  split at hg
  ·rename_i h1; rw [if_pos h1]; exact hr.loc _ rows (eZ h1) hg
  ·rename_i h1; rw [if_neg h1]; exact h.loc q rows hq hg
 ·rw [ov hd hq] at hg
  unfold fE at hl ⊢
  rw [vl hq, vD hq]
  split at hg
  ·rename_i h1; rw [if_pos h1] at hl ⊢; exact hr.cell _ rows l i f c (eZ h1) hg hl hc
  ·rename_i h1; rw [if_neg h1] at hl ⊢; exact h.cell q rows l i f c hq hg hl hc
 ·rw [Ad hd] at hc
  unfold fE
  by_cases h1 : i = d
  ·subst h1
   rw [if_pos rfl] at hc
   simp only [bJ, beq_self_eq_true, if_true, eY]
   exact hr.head 0 f c (by simpa [at2] using hc)
  ·rw [if_neg h1] at hc
   simp only [bJ, beq_iff_eq, h1, if_false]
   exact h.head i f c hc
 ·rw [ov hd hq] at hg
  rw [ov hd hq'] at hg'
  unfold fE at hl hl'
  by_cases h1 : bJ d q = true
  ·rw [if_pos h1] at hg hl
   by_cases h2 : bJ d q' = true
   ·rw [if_pos h2] at hg' hl'
    exact QJ h1 h2 (hr.inj _ _ rows rows' l l' (eZ h1) (eZ h2) hg hg' hl hl' hb)
   ·rw [if_neg h2] at hg' hl'
    exact absurd hb.symm (hap q' rows' l' _ rows l hq' hg' hl' (eZ h1) hg hl)
  ·rw [if_neg h1] at hg hl
   by_cases h2 : bJ d q' = true
   ·rw [if_pos h2] at hg' hl'
    exact absurd hb (hap q rows l _ rows' l' hq hg hl (eZ h2) hg' hl')
   ·rw [if_neg h2] at hg' hl'
    exact h.inj q q' rows rows' l l' hq hq' hg hg' hl hl' hb
theorem au.sH {γr : Path -> Option Loc} {d : Nat} : ∀ {t : T1} {x : Value}, au w S γ t x -> au w S (fE γ γr d) (t.sH d) x
 | .unk, _, _ => trivial
 | .c _, _, h => h
 | .fp _ _, _, h => h
 | .pl p i f, x, h => by
  show au w S _ (if bJ d p then T1.unk else T1.pl p i f) x
  split
  ·trivial
  ·rename_i h1
   obtain ⟨l, hl, hx⟩ := h
   exact ⟨l, by unfold fE; rw [if_neg h1]; exact hl, hx⟩
 | .so q i f n, x, h => by
  show au w S _ (if bJ d (q ++ [(i, f)]) then T1.unk else T1.so q i f n) x
  split
  ·trivial
  ·rename_i h1
   have e : fE γ γr d (q ++ [(i, f)]) = γ (q ++ [(i, f)]) := by unfold fE; rw [if_neg h1]
   simp only [au, e]
   exact h
 | .sp p lo n, x, h => by
  show au w S _ (if bJ d p then T1.unk else T1.sp p lo n) x
  split
  ·trivial
  ·rename_i h1
   have e : fE γ γr d p = γ p := by unfold fE; rw [if_neg h1]
   simp only [au, e]
   exact h
theorem GM {γr : Path -> Option Loc} {d : Nat} {p : Path} (h : bJ 0 p = true) : fE γ γr d (eY d p) = γr p := by
 cases p with
 | nil => simp [bJ] at h
 | cons x p =>
  obtain ⟨i, f⟩ := x
  simp [bJ] at h
  subst h
  simp [fE, bJ, eY]
theorem au.shift {γr : Path -> Option Loc} {d : Nat} : ∀ {t : T1} {x : Value}, au w S γr t x -> au w S (fE γ γr d) (t.shift d) x
 | .unk, _, _ => trivial
 | .c _, _, h => h
 | .fp _ _, _, h => h
 | .pl p i f, x, h => by
  show au w S _ (if bJ 0 p then T1.pl (eY d p) i f else T1.unk) x
  split
  ·rename_i h1
   simp only [au, GM h1]
   exact h
  ·trivial
 | .so [] i f n, x, h => by
  show au w S _ (if i = 0 then T1.so [] d f n else T1.unk) x
  split
  ·rename_i h1
   subst h1
   have e : fE γ γr d ([] ++ [(d, f)]) = γr ([] ++ [(0, f)]) := by simp [fE, bJ, eY]
   simp only [au, e]
   exact h
  ·trivial
 | .so (y :: q) i f n, x, h => by
  show au w S _ (if bJ 0 (y :: q) then T1.so (eY d (y :: q)) i f n else T1.unk) x
  split
  ·rename_i h1
   have e : fE γ γr d (eY d (y :: q) ++ [(i, f)]) = γr (y :: q ++ [(i, f)]) := by
    rw [<- vD (by simp)]
    exact GM (by rw [vl (by simp)]; exact h1)
   simp only [au, e]
   exact h
  ·trivial
 | .sp p lo n, x, h => by
  show au w S _ (if bJ 0 p then T1.sp (eY d p) lo n else T1.unk) x
  split
  ·rename_i h1
   simp only [au, GM h1]
   exact h
  ·trivial
theorem Frame.below {w' : World} (h : Frame B w) (hb : Below w.heap.size w w') : Frame B w' := by
 refine ⟨hb.os.trans h.os, hb.tape.trans h.tape, hb.output.trans h.output, Nat.le_trans h.size hb.size, fun b hlt hF => ?_, fun b cells e z hh => ?_⟩
 ·rw [hb.block b (Nat.lt_of_lt_of_le hlt h.size)]; exact h.all b hlt hF
 ·obtain ⟨cells', h1, h2⟩ := h.cells b cells e z hh
  exact ⟨cells', by rw [hb.block b (bT h1)]; exact h1, h2⟩
theorem mf {row : List C} {q : Path} {rows : Rows} (hq : q ≠ []) (h : ay [vf row] q = some rows) : row ≠ [] /\ ay [row] q = some rows := by
 cases row with
 | cons c row => exact ⟨by simp, h⟩
 | nil =>
  exfalso
  cases q with
  | nil => exact hq rfl
  | cons x q =>
   obtain ⟨i, f⟩ := x
   cases i with
   | succ i => simp [ay, at2, vf] at h
   | zero =>
    cases f with
    | succ f => simp [ay, at2, vf] at h
    | zero => simp [ay, at2, vf, C.rows] at h
theorem bf.pad {row : List C} (h : bf w S [row] γ) : bf w S [vf row] γ := by
 refine ⟨fun q rows hq hr => h.loc q rows hq (mf hq hr).2, fun q rows l i f c hq hr => h.cell q rows l i f c hq (mf hq hr).2, fun i f c hc => ?_,
  fun q q' rows rows' l l' hq hq' hr hr' => h.inj q q' rows rows' l l' hq hq' (mf hq hr).2 (mf hq' hr').2⟩
 cases row with
 | cons c row => exact h.head i f _ hc
 | nil =>
  cases i with
  | succ i => simp [at2, vf] at hc
  | zero =>
   cases f with
   | succ f => simp [at2, vf] at hc
   | zero =>
    simp [at2, vf] at hc
    subst hc
    exact ⟨.bool true, rfl⟩
theorem Rel.call {w' : World} {res : TV} {row : List C} {v : Value} {d : Nat} (hR : Rel B S γ st a w) (hSn : ∀ b, S b -> B.S b \/ B.w.heap.size <= b) (h : Ret w S w' res row v) (hnp : B.np <= d)
  (hd : d < st.m.length) : lz B (st.dd d res row) (a.put (some d) v) w' := by
 obtain ⟨hb, S', γr, hS1, hS2, hS3, hm, hv, hnew⟩ := h
 have hSw : ∀ b, S b -> w'.heap[b]? = w.heap[b]? := fun b hs => hb.block b (hR.lt b hs)
 have hlt : ∀ q rows l, q ≠ [] -> ay st.m q = some rows -> γ q = some l -> l.b < w.heap.size := fun q rows l hq hr hl => by
  have := hR.mem.loc q rows hq hr
  rw [hl] at this
  obtain ⟨_, _, _, cells, e, lo, hi, h4, _⟩ := this
  exact bT h4
 have hold : bf w' S' st.m γ := hR.mem.frame hS1 hSw fun q rows l hq hr hl => by
  refine ⟨hb.block _ (hlt q rows l hq hr hl), fun hs => ?_⟩
  rcases hS2 _ hs with h1 | h1
  ·have := hR.mem.loc q rows hq hr
   rw [hl] at this
   exact this.1 h1
  ·have := hlt q rows l hq hr hl
   omega
 have hmem := hold.setRow hm.pad hd fun q rows l q' rows' l' hq hr hl hq' hr' hl' he => by
  have h1 := hlt q rows l hq hr hl
  have h2 := hnew q' rows' l' hq' (mf hq' hr').2 hl'
  omega
 refine ⟨S', fE γ γr d, ⟨fun b hs => hS1 b (hR.sS b hs), hS3, hmem, fun k t hk => ?_, by simp [St.dd, Act.put, hR.size], by simp [St.dd, hR.msize], hR.defers, fun q rows l hq hr hl => ?_, fun i f c hi hc hrows => ?_, hR.fr.below hb⟩, fun b hs => ?_⟩
 ·simp only [St.dd, Act.put] at hk ⊢
  by_cases hkd : d = k
  ·subst hkd
   have hlen : d < (st.t.map (TV.bX (T1.sH d))).length := by have := (List.getElem?_eq_some_iff.1 hk).1; simpa using this
   rw [List.getElem?_set_self hlen] at hk
   cases hk
   have : d < a.tmps.size := by rw [<- hR.size]; simpa using hlen
   simp only [Array.getD_eq_getD_getElem?, Array.getElem?_setIfInBounds_self_of_lt this, Option.getD_some]
   exact aD.bX (fun _ _ ht => au.shift ht) hv
  ·rw [List.getElem?_set_ne hkd] at hk
   obtain ⟨t0, ht0, rfl⟩ := ax hk
   have := hR.tv k t0 ht0
   simp only [Array.getD_eq_getD_getElem?] at this ⊢
   rw [Array.getElem?_setIfInBounds_ne hkd]
   exact aD.bX (fun _ _ ht => au.sH (au.frame hS1 hSw ht)) this
 ·simp only [St.dd] at hr
  rw [ov hd hq] at hr
  unfold fE at hl
  split at hr
  ·rename_i h1
   rw [if_pos h1] at hl
   exact .inl (Nat.le_trans hR.fr.size (hnew _ rows l (eZ h1) (mf (eZ h1) hr).2 hl))
  ·rename_i h1
   rw [if_neg h1] at hl
   exact hR.own q rows l hq hr hl
 ·simp only [St.dd] at hc
  have hid : i ≠ d := by omega
  rw [Ad hd, if_neg hid] at hc
  have e : fE γ γr d [(i, f)] = γ [(i, f)] := by simp [fE, bJ, hid]
  rw [e]
  exact hR.fix i f c hi hc hrows
 ·rcases hS2 b hs with h1 | h1
  ·exact hSn b h1
  ·exact .inr (Nat.le_trans hR.fr.size h1)
end
end Go.Mv
namespace Go.Mv
open Go.RowKit
def Af (w : World) (S : Nat -> Prop) : da := ⟨w, S, fun _ _ => False, 0, fun _ => none⟩
def yi (args : List TV) (n : Nat) : List TV := args ++ List.replicate (n - args.length) (.one .unk)
def pI (args : List TV) (n : Nat) : St := { t := yi args n, m := List.replicate (args.length + (n - args.length)) [.dead] }
theorem uu {n : Nat} {q : Path} {rows : Rows} (hq : q ≠ []) (h : ay (List.replicate n [C.dead]) q = some rows) : False := by
 cases q with
 | nil => exact hq rfl
 | cons x q =>
  obtain ⟨i, f⟩ := x
  simp only [ay] at h
  cases hc : at2 (List.replicate n [C.dead]) i f with
  | none => rw [hc] at h; cases h
  | some c =>
   have : c = .dead := by
    unfold at2 at hc
    rw [List.getElem?_replicate] at hc
    split at hc
    ·simp only [Option.bind_some] at hc
     have := List.mem_of_getElem? hc
     simpa using this
    ·cases hc
   subst this
   rw [hc] at h
   simp [C.rows] at h
theorem Rz {w : World} {S : Nat -> Prop} {args : List TV} {vals : List Value} {n : Nat} (hS : ∀ b, S b -> b < w.heap.size) (h : cK (aD w S fun _ => none) args vals) :
  lz (Af w S) (pI args n) { tmps := vals.toArray ++ Array.replicate (n - vals.toArray.size) undef, defers := [] } w := by
 refine ⟨S, fun _ => none, ⟨fun _ hb => hb, hS, ⟨fun q rows hq hr => (uu hq hr).elim, fun q rows l i f c hq hr => (uu hq hr).elim, fun i f c hc => ?_, fun q q' rows rows' l l' hq hq' hr => (uu hq hr).elim⟩,
  fun k t hk => ?_, ?_, ?_, rfl, fun q rows l hq hr => (uu hq hr).elim, fun i f c hi => by simp [Af] at hi, Frame.refl _⟩, fun b hb => .inl hb⟩
 ·have : c = .dead := by
   unfold at2 at hc
   simp only [pI, List.getElem?_replicate] at hc
   split at hc
   ·simp only [Option.bind_some] at hc
    have := List.mem_of_getElem? hc
    simpa using this
   ·cases hc
  subst this
  exact ⟨.bool true, rfl⟩
 ·simp only [pI, yi] at hk
  simp only [Array.getD_eq_getD_getElem?, Array.getElem?_append, List.size_toArray, List.getElem?_toArray]
  by_cases hlt : k < args.length
  ·rw [List.getElem?_append_left hlt] at hk
   obtain ⟨b, h1, h2⟩ := h.get hk
   rw [if_pos (by rw [<- h.1]; exact hlt), h1]
   exact h2
  ·rw [List.getElem?_append_right (by omega), List.getElem?_replicate] at hk
   split at hk
   ·cases hk; trivial
   ·cases hk
 ·simp [pI, yi, h.1]
 ·simp [pI, yi]
def TZ (m : Rows) (row : List C) (ps : List Path) : T1 -> Option (T1 × List C × List Path)
 | .so q i f n => match ay m q with
  | none => none
  | some rows => match at2 rows i f with
   | some (.sl sz rs) => if rs.length = n then some (.so [] 0 row.length n, row ++ [.sl sz rs], ps ++ [q ++ [(i, f)]]) else none
   | _ => none
 | .pl p 0 0 => match p.getLast? with
  | none => none
  | some (i, f) => match ay m p.dropLast with
   | none => none
   | some rows => match at2 rows i f with
    | some (.bx r) => some (.pl [(0, row.length)] 0 0, row ++ [.bx r], ps ++ [p])
    | _ => none
 | .pl _ _ _ => none
 | .sp _ _ _ => none
 | t => some (t, row, ps)
def MA (m : Rows) (row : List C) (ps : List Path) : List T1 -> Option (List T1 × List C × List Path)
 | [] => some ([], row, ps)
 | t :: ts => match TZ m row ps t with
  | none => none
  | some (t', row', ps') => match MA m row' ps' ts with
   | none => none
   | some (ts', row'', ps'') => some (t' :: ts', row'', ps'')
def My (m : Rows) (row : List C) (ps : List Path) : T2 -> Option (T2 × List C × List Path)
 | .one t => match TZ m row ps t with
  | none => none
  | some (t', r) => some (.one t', r)
 | .agg l => match MA m row ps l with
  | none => none
  | some (l', r) => some (.agg l', r)
def Eo (m : Rows) (row : List C) (ps : List Path) : List T2 -> Option (List T2 × List C × List Path)
 | [] => some ([], row, ps)
 | t :: ts => match My m row ps t with
  | none => none
  | some (t', row', ps') => match Eo m row' ps' ts with
   | none => none
   | some (ts', row'', ps'') => some (t' :: ts', row'', ps'')
def GC (m : Rows) : TV -> Option (TV × List C × List Path)
 | .one t => match TZ m [] [] t with
  | none => none
  | some (t', r) => some (.one t', r)
 | .agg l => match MA m [] [] l with
  | none => none
  | some (l', r) => some (.agg l', r)
 | .tup l => match Eo m [] [] l with
  | none => none
  | some (l', r) => some (.tup l', r)
def ig : List Path -> Bool
 | [] => true
 | p :: ps => ps.all (fun p' => !eV p p' && !eV p' p) && ig ps
section
variable {P : Program} {B : da} {S : Nat -> Prop} {γ : Path -> Option Loc} {st : St} {a : Act} {w : World}
def Handed (m : Rows) (row : List C) (ps : List Path) : Prop :=
 row.length = ps.length /\ ∀ (j : Nat) (c : C) (p : Path), row[j]? = some c -> ps[j]? = some p -> ∃ q i f rows, p = q ++ [(i, f)] /\ ay m q = some rows /\ at2 rows i f = some c
def sW (γ : Path -> Option Loc) (ps : List Path) : Path -> Option Loc
 | (0, j) :: s => (ps[j]?).bind fun p => γ (p ++ s)
 | _ => none
theorem Handed.snoc {m : Rows} {row : List C} {ps : List Path} (h : Handed m row ps) {q : Path} {i f : Nat} {rows : Rows} {c : C} (hq : ay m q = some rows) (hc : at2 rows i f = some c) :
  Handed m (row ++ [c]) (ps ++ [q ++ [(i, f)]]) := by
 refine ⟨by simp [h.1], fun j c' p hj hp => ?_⟩
 by_cases hlt : j < row.length
 ·rw [List.getElem?_append_left hlt] at hj
  rw [List.getElem?_append_left (by rw [<- h.1]; exact hlt)] at hp
  exact h.2 j c' p hj hp
 ·have he : j = row.length := by
   have := (List.getElem?_eq_some_iff.1 hj).1
   simp at this
   omega
  subst he
  rw [List.getElem?_append_right (Nat.le_refl _)] at hj
  rw [h.1, List.getElem?_append_right (Nat.le_refl _)] at hp
  simp at hj hp
  subst hj
  subst hp
  exact ⟨q, i, f, rows, rfl, hq, hc⟩
theorem GB {m : Rows} {row row' : List C} {ps ps' : List Path} {t t' : T1} {x : Value} (hm : bf w S m γ) (hH : Handed m row ps) (h : TZ m row ps t = some (t', row', ps')) (hv : au w S γ t x) :
  Handed m row' ps' /\ ps <+: ps' /\ ∀ ps'', ps' <+: ps'' -> au w S (sW γ ps'') t' x := by
 have key : ∀ (p : Path) (ps'' : List Path), ps ++ [p] <+: ps'' -> sW γ ps'' [(0, row.length)] = γ p := by
  rintro p _ ⟨r, rfl⟩
  simp only [sW]
  rw [hH.1, List.append_assoc, List.getElem?_append_right (Nat.le_refl _)]
  simp
 cases t with
 | unk => cases h; exact ⟨hH, List.prefix_refl _, fun _ _ => trivial⟩
 | c c => cases h; exact ⟨hH, List.prefix_refl _, fun _ _ => hv⟩
 | fp r f => cases h; exact ⟨hH, List.prefix_refl _, fun _ _ => hv⟩
 | sp p lo n => cases h
 | so q i f n =>
  simp only [TZ] at h
  split at h
  ·cases h
  ·rename_i rows hq
   split at h
   ·rename_i sz rs hc
    split at h
    ·rename_i hn
     cases h
     refine ⟨hH.snoc hq hc, ⟨_, rfl⟩, fun ps'' hp => ?_⟩
     simp only [au, List.nil_append, key _ ps'' hp]
     exact hv
    ·cases h
   ·cases h
 | pl p i f =>
  cases i with
  | succ i => cases h
  | zero =>
   cases f with
   | succ f => cases h
   | zero =>
    simp only [TZ] at h
    split at h
    ·cases h
    ·rename_i i f hl
     split at h
     ·cases h
     ·rename_i rows hq
      split at h
      ·rename_i r hc
       cases h
       have hp : p = p.dropLast ++ [(i, f)] := by
        have hne : p ≠ [] := fun e => by subst e; cases hl
        have e := List.dropLast_concat_getLast hne
        rw [List.getLast?_eq_some_getLast hne] at hl
        simp only [Option.some.injEq] at hl
        rw [hl] at e
        exact e.symm
       refine ⟨by have := hH.snoc hq hc; rw [<- hp] at this; exact this, ⟨_, rfl⟩, fun ps'' hpp => ?_⟩
       obtain ⟨l, h1, h2⟩ := hv
       exact ⟨l, by rw [key _ ps'' hpp]; exact h1, h2⟩
      ·cases h
theorem BH {m : Rows} (hm : bf w S m γ) : ∀ {ts ts' : List T1} {row row' : List C} {ps ps' : List Path} {xs : List Value}, Handed m row ps -> MA m row ps ts = some (ts', row', ps') ->
  cK (au w S γ) ts xs -> Handed m row' ps' /\ ps <+: ps' /\ ∀ ps'', ps' <+: ps'' -> cK (au w S (sW γ ps'')) ts' xs
 | [], ts', row, row', ps, ps', xs, hH, h, hv => by
  cases h
  have := List.eq_nil_of_length_eq_zero hv.1.symm
  subst this
  exact ⟨hH, List.prefix_refl _, fun _ _ => .nil⟩
 | t :: ts, ts', row, row', ps, ps', xs, hH, h, hv => by
  obtain ⟨x, xs, rfl, h1, h2⟩ := hv.dQ
  simp only [MA] at h
  split at h
  ·cases h
  ·rename_i t1 row1 ps1 ho
   split at h
   ·cases h
   ·rename_i ts2 row2 ps2 hos
    cases h
    obtain ⟨a1, a2, a3⟩ := GB hm hH ho h1
    obtain ⟨b1, b2, b3⟩ := BH hm a1 hos h2
    exact ⟨b1, a2.trans b2, fun ps'' hp => .cons (a3 ps'' (b2.trans hp)) (b3 ps'' hp)⟩
theorem SL {m : Rows} {row row' : List C} {ps ps' : List Path} {t t' : T2} {x : Value} (hm : bf w S m γ) (hH : Handed m row ps) (h : My m row ps t = some (t', row', ps')) (hv : OX w S γ t x) :
  Handed m row' ps' /\ ps <+: ps' /\ ∀ ps'', ps' <+: ps'' -> OX w S (sW γ ps'') t' x := by
 cases t with
 | one t =>
  simp only [My] at h
  split at h
  ·cases h
  ·rename_i t1 r ho; cases h; exact GB hm hH ho hv
 | agg l =>
  simp only [My] at h
  split at h
  ·cases h
  ·rename_i l1 r ho
   cases h
   obtain ⟨xs, hx, hl⟩ := hv
   obtain ⟨a1, a2, a3⟩ := BH hm hH ho hl
   exact ⟨a1, a2, fun ps'' hp => ⟨xs, hx, a3 ps'' hp⟩⟩
theorem Er {m : Rows} (hm : bf w S m γ) : ∀ {ts ts' : List T2} {row row' : List C} {ps ps' : List Path} {xs : List Value}, Handed m row ps -> Eo m row ps ts = some (ts', row', ps') ->
  cK (OX w S γ) ts xs -> Handed m row' ps' /\ ps <+: ps' /\ ∀ ps'', ps' <+: ps'' -> cK (OX w S (sW γ ps'')) ts' xs
 | [], ts', row, row', ps, ps', xs, hH, h, hv => by
  cases h
  have := List.eq_nil_of_length_eq_zero hv.1.symm
  subst this
  exact ⟨hH, List.prefix_refl _, fun _ _ => .nil⟩
 | t :: ts, ts', row, row', ps, ps', xs, hH, h, hv => by
  obtain ⟨x, xs, rfl, h1, h2⟩ := hv.dQ
  simp only [Eo] at h
  split at h
  ·cases h
  ·rename_i t1 row1 ps1 ho
   split at h
   ·cases h
   ·rename_i ts2 row2 ps2 hos
    cases h
    obtain ⟨a1, a2, a3⟩ := SL hm hH ho h1
    obtain ⟨b1, b2, b3⟩ := Er hm a1 hos h2
    exact ⟨b1, a2.trans b2, fun ps'' hp => .cons (a3 ps'' (b2.trans hp)) (b3 ps'' hp)⟩
theorem wC (m : Rows) : Handed m [] [] := ⟨rfl, fun j c p hj => by simp at hj⟩
theorem Om {m : Rows} {row : List C} {ps : List Path} {t t' : TV} {x : Value} (hm : bf w S m γ) (h : GC m t = some (t', row, ps)) (hv : aD w S γ t x) :
  Handed m row ps /\ aD w S (sW γ ps) t' x := by
 cases t with
 | one t =>
  simp only [GC] at h
  split at h
  ·cases h
  ·rename_i t1 r ho
   cases h
   obtain ⟨a1, _, a3⟩ := GB hm (wC m) ho hv
   exact ⟨a1, a3 _ (List.prefix_refl _)⟩
 | agg l =>
  simp only [GC] at h
  split at h
  ·cases h
  ·rename_i l1 r ho
   cases h
   obtain ⟨xs, hx, hl⟩ := hv
   obtain ⟨a1, _, a3⟩ := BH hm (wC m) ho hl
   exact ⟨a1, xs, hx, a3 _ (List.prefix_refl _)⟩
 | tup l =>
  simp only [GC] at h
  split at h
  ·cases h
  ·rename_i l1 r ho
   cases h
   obtain ⟨xs, hx, hl⟩ := hv
   obtain ⟨a1, _, a3⟩ := Er hm (wC m) ho hl
   exact ⟨a1, xs, hx, a3 _ (List.prefix_refl _)⟩
theorem pG : ∀ {ps : List Path}, ig ps = true -> ∀ (j j' : Nat) (p p' : Path), ps[j]? = some p -> ps[j']? = some p' -> p <+: p' -> j = j'
 | [], _, j, j', p, p', h, _, _ => by simp at h
 | x :: ps, h, j, j', p, p', hj, hj', hp => by
  simp only [ig, Bool.and_eq_true, List.all_eq_true, Bool.not_eq_true'] at h
  cases j with
  | zero =>
   simp at hj
   subst hj
   cases j' with
   | zero => rfl
   | succ j' =>
    simp at hj'
    have := (h.1 p' (List.mem_of_getElem? hj')).1
    rw [eW hp] at this
    cases this
  | succ j =>
   simp at hj
   cases j' with
   | zero =>
    simp at hj'
    subst hj'
    have := (h.1 p (List.mem_of_getElem? hj)).2
    rw [eW hp] at this
    cases this
   | succ j' =>
    simp at hj'
    rw [pG h.2 j j' p p' hj hj' hp]
theorem fw {m : Rows} {row : List C} {ps : List Path} (hH : Handed m row ps) {q : Path} {rows : Rows} (hq : q ≠ []) (h : ay [row] q = some rows) :
  ∃ j s p, q = (0, j) :: s /\ ps[j]? = some p /\ p ≠ [] /\ ay m (p ++ s) = some rows := by
 cases q with
 | nil => exact absurd rfl hq
 | cons x s =>
  obtain ⟨i, j⟩ := x
  simp only [ay] at h
  cases hc : at2 [row] i j with
  | none => rw [hc] at h; cases h
  | some c =>
   have hi : i = 0 := by
    cases i with
    | zero => rfl
    | succ i => simp [at2] at hc
   subst hi
   have hrow : row[j]? = some c := by simpa [at2] using hc
   have hj : j < ps.length := by rw [<- hH.1]; exact (List.getElem?_eq_some_iff.1 hrow).1
   obtain ⟨q', i', f', rows', he, hq', hc'⟩ := hH.2 j c _ hrow (List.getElem?_eq_getElem hj)
   refine ⟨j, s, ps[j], rfl, List.getElem?_eq_getElem hj, by rw [he]; simp, ?_⟩
   rw [he, List.append_assoc, List.singleton_append, ca hq' hc']
   rw [hc] at h
   exact h
theorem bf.hand {m : Rows} {row : List C} {ps : List Path} (h : bf w S m γ) (hH : Handed m row ps) (hap : ig ps = true) : bf w S [row] (sW γ ps) := by
 have hg : ∀ j s p, ps[j]? = some p -> sW γ ps ((0, j) :: s) = γ (p ++ s) := fun j s p hp => by simp [sW, hp]
 refine ⟨fun q rows hq hr => ?_, fun q rows l i f c hq hr hl hc => ?_, fun i f c hc => ?_, fun q q' rows rows' l l' hq hq' hr hr' hl hl' hb => ?_⟩
 ·obtain ⟨j, s, p, rfl, hp, hne, hr⟩ := fw hH hq hr
  rw [hg j s p hp]
  exact h.loc _ rows (by simp [hne]) hr
 ·obtain ⟨j, s, p, rfl, hp, hne, hr⟩ := fw hH hq hr
  rw [hg j s p hp] at hl
  obtain ⟨x, h1, h2⟩ := h.cell _ rows l i f c (by simp [hne]) hr hl hc
  refine ⟨x, h1, ?_⟩
  rw [List.cons_append, hg j _ p hp, <- List.append_assoc]
  exact h2
 ·have hi : i = 0 := by
   cases i with
   | zero => rfl
   | succ i => simp [at2] at hc
  subst hi
  have hrow : row[f]? = some c := by simpa [at2] using hc
  have hj : f < ps.length := by rw [<- hH.1]; exact (List.getElem?_eq_some_iff.1 hrow).1
  obtain ⟨q', i', f', rows', he, hq', hc'⟩ := hH.2 f c _ hrow (List.getElem?_eq_getElem hj)
  obtain ⟨y, hy⟩ := h.mC hq' hc'
  refine ⟨y, ?_⟩
  rw [hg f [] _ (List.getElem?_eq_getElem hj), he, List.append_nil]
  exact hy
 ·obtain ⟨j, s, p, rfl, hp, hne, hr⟩ := fw hH hq hr
  obtain ⟨j', s', p', rfl, hp', hne', hr'⟩ := fw hH hq' hr'
  rw [hg j s p hp] at hl
  rw [hg j' s' p' hp'] at hl'
  have he := h.inj _ _ rows rows' l l' (by simp [hne]) (by simp [hne']) hr hr' hl hl' hb
  have hpre : p <+: p' \/ p' <+: p := List.prefix_or_prefix_of_prefix (List.prefix_append p s) (he ▸ List.prefix_append p' s')
  have hjj : j = j' := by
   rcases hpre with h1 | h1
   ·exact pG hap j j' p p' hp hp' h1
   ·exact (pG hap j' j p' p hp' hp h1).symm
  subst hjj
  rw [hp] at hp'
  cases hp'
  rw [List.append_cancel_left he]
theorem Qs {w0 : World} {S0 : Nat -> Prop} {t res : TV} {row : List C} {ps : List Path} {v : Value} (hR : lz (Af w0 S0) st a w) (hv : ∀ (S : Nat -> Prop) γ, Rel (Af w0 S0) S γ st a w -> aD w S γ t v)
  (h : GC st.m t = some (res, row, ps)) (hap : ig ps = true) : Ret w0 S0 w res row v := by
 obtain ⟨S, γ, hR, hSn⟩ := hR
 obtain ⟨hH, hval⟩ := Om hR.mem h (hv S γ hR)
 refine ⟨⟨hR.fr.os, hR.fr.tape, hR.fr.output, hR.fr.size, fun k hk => hR.fr.all k hk fun o => id⟩, S, sW γ ps, hR.sS, hSn, hR.lt, hR.mem.hand hH hap, hval, fun q rows l hq hr hl => ?_⟩
 obtain ⟨j, s, p, rfl, hp, hne, hr⟩ := fw hH hq hr
 have hl' : γ (p ++ s) = some l := by simpa [sW, hp] using hl
 rcases hR.own _ rows l (by simp [hne]) hr hl' with h1 | ⟨⟨o, ho⟩, _⟩
 ·exact h1
 ·exact ho.elim
end
end Go.Mv
namespace Go.Mv
open Go.RowKit
abbrev AQ := Exit -> St -> Prop
def Bt (B : da) (Q : AQ) : Exit -> Act -> World -> Prop
 | .panic _, _, _ => False
 | .outgrown, _, _ => False
 | e, a, w => ∃ st, Q e st /\ lz B st a w
def AWp (P : Program) (B : da) (c : Code) (Q : AQ) (st : St) : Prop := ∀ a w, lz B st a w -> c.wp P (Bt B Q) a w
def yc (P : Program) (B : da) (ops : Array Oper) (l : List Nat) (Q : AQ) (st : St) : Prop := ∀ a w, lz B st a w -> wpOps P ops (Bt B Q) l a w
def Xu (next : St -> Prop) (Q : AQ) : AQ
 | .normal, st => next st
 | e, st => Q e st
def Rm (id : Nat) (Q : AQ) : AQ
 | .exit id', st => cond (Nat.beq id' id) (Q .normal st) (Q (.exit id') st)
 | e, st => Q e st
section
variable {P : Program} {B : da} {S : Nat -> Prop} {γ : Path -> Option Loc} {st : St} {a : Act} {w : World} {Q : AQ}
theorem XR (h : Q .normal st) : AWp P B .skip Q st := fun _ _ hR => wp_skip ⟨st, h, hR⟩
theorem YZ (h : Q .ret st) : AWp P B .ret Q st := fun _ _ hR => wp_ret ⟨st, h, hR⟩
theorem XP {id : Nat} (h : Q (.exit id) st) : AWp P B (.exit id) Q st := fun _ _ hR => wp_exit ⟨st, h, hR⟩
theorem Za {x y : Code} (h : AWp P B x (Xu (fun st' => AWp P B y Q st') Q) st) : AWp P B (.seq x y) Q st := fun a w hR =>
 wp_seq (wp_mono (h a w hR) fun e a' w' hq => by
  cases e with
  | normal => obtain ⟨st', h1, h2⟩ := hq; exact h1 a' w' h2
  | panic c => exact hq
  | outgrown => exact hq
  | exit id => exact hq
  | goto l => exact hq
  | ret => exact hq)
theorem QW {id : Nat} {c : Code} (h : AWp P B c (Rm id Q) st) : AWp P B (.block id c) Q st := fun a w hR =>
 wp_block (wp_mono (h a w hR) fun e a' w' hq => by
  cases e with
  | exit id' =>
   obtain ⟨st', h1, h2⟩ := hq
   simp only [Rm] at h1
   simp only [Exit.inBlock]
   split
   ·rename_i he; subst he; rw [Nat.beq_refl] at h1; exact ⟨st', h1, h2⟩
   ·rename_i he
    have hb : Nat.beq id' id = false := by
     cases hb : Nat.beq id' id with
     | false => rfl
     | true => exact absurd (Nat.eq_of_beq_eq_true hb) he
    rw [hb] at h1
    exact ⟨st', h1, h2⟩
  | normal => exact hq
  | panic c => exact hq
  | outgrown => exact hq
  | goto l => exact hq
  | ret => exact hq)
theorem Xh {B : da} {S : Nat -> Prop} {γ : Path -> Option Loc} (hR : Rel B S γ st a w) {x : Operand} {u : Value} (h : evT st x = .one (.c (.v u))) : a.eval x = u := by
 have := hR.evT x
 rw [h] at this
 exact jC this
theorem DB {c : Operand} {x y : Code} {b : Bool} (hc : evT st c = .one (.c (.v (.bool b)))) (ht : b = true -> AWp P B x Q st) (hf : b = false -> AWp P B y Q st) : AWp P B (.cond c x y) Q st := fun a w hR => by
 obtain ⟨S, γ, hR', hS⟩ := hR
 exact wp_cond_split (Xh hR' hc) (fun e => ht e a w ⟨S, γ, hR', hS⟩) fun e => hf e a w ⟨S, γ, hR', hS⟩
theorem uY {p : Nat -> Prop} (h : ∃ n, p n) : ∃ n, p n /\ ∀ m, p m -> n <= m := by
 obtain ⟨n, hn⟩ := h
 induction n using Nat.strongRecOn with
 | _ n ih =>
  by_cases h : ∃ m, m < n /\ p m
  ·obtain ⟨m, h1, h2⟩ := h; exact ih m h1 h2
  ·exact ⟨n, hn, fun m hm => Nat.le_of_not_lt fun hlt => h ⟨m, hlt, hm⟩⟩
theorem XQ {ι : Type} {c : Code} (I : ι -> St) (μ : ι -> Nat) (i0 : ι) (h0 : st = I i0) (round : ∀ i, AWp P B c (Xu (fun st' => ∃ j, st' = I j /\ μ j < μ i) Q) (I i)) : AWp P B (.loop c) Q st := fun a w hR => by
 classical
 let M : Act -> World -> Nat -> Prop := fun a w n => ∃ i, lz B (I i) a w /\ μ i = n
 let ν : Act -> World -> Nat := fun a w => if h : ∃ n, M a w n then Classical.choose (uY h) else 0
 refine wp_loop (fun a w => ∃ n, M a w n) ν ⟨μ i0, i0, h0 ▸ hR, rfl⟩ fun a w hI => ?_
 have hν : ν a w = Classical.choose (uY hI) := by simp only [ν]; rw [dif_pos hI]
 obtain ⟨i, hi, hμ⟩ := (Classical.choose_spec (uY hI)).1
 refine wp_mono (round i a w hi) fun e a' w' hq => ?_
 cases e with
 | normal =>
  obtain ⟨st', ⟨j, rfl, hlt⟩, h2⟩ := hq
  have hI' : ∃ n, M a' w' n := ⟨μ j, j, h2, rfl⟩
  refine ⟨hI', ?_⟩
  have : ν a' w' = Classical.choose (uY hI') := by simp only [ν]; rw [dif_pos hI']
  rw [this, hν]
  have h3 := (Classical.choose_spec (uY hI')).2 (μ j) ⟨j, h2, rfl⟩
  omega
 | panic c => exact hq
 | outgrown => exact hq
 | exit id => exact hq
 | goto l => exact hq
 | ret => exact hq
theorem Nv {id : Nat} {ops : Array Oper} (h : yc P B ops (List.range ops.size) Q st) : AWp P B (.region id ops false) Q st := fun a w hR => wp_region (h a w hR)
theorem Rc {ops : Array Oper} (h : Q .normal st) : yc P B ops [] Q st := fun _ _ hR => ⟨st, h, hR⟩
def dm (ops : Array Oper) (st : St) (o : Oper) : Option Bool :=
 match o.guard with
 | none => some true
 | some (j, b) => match (ops[j]?).bind (·.dst) with
  | none => none
  | some k => match st.t[k]? with
   | some (.one (.c (.v (.bool c)))) => some (c == b)
   | some (.tup []) => some false
   | _ => none
theorem cV (hR : Rel B S γ st a w) {ops : Array Oper} {o : Oper} {b : Bool} (h : dm ops st o = some b) : Region.wanted o (yielded ops a.tmps) = b := by
 unfold dm at h
 unfold Region.wanted
 split at h
 ·rename_i hg; cases h; rw [hg]
 ·rename_i j b' hg
  rw [hg]
  split at h
  ·cases h
  ·rename_i k hk
   split at h
   ·rename_i c ht
    cases h
    have := jC (hR.tv k _ ht)
    have hlt : k < a.tmps.size := by rw [<- hR.size]; exact (List.getElem?_eq_some_iff.1 ht).1
    have h2 : a.tmps[k]? = some (.bool c) := by
     rw [Array.getD_eq_getD_getElem?, Array.getElem?_eq_getElem hlt] at this
     rw [Array.getElem?_eq_getElem hlt]
     simpa using this
    simp only [yielded, hk, Option.bind_some, h2]
    cases c <;> cases b' <;> rfl
   ·rename_i ht
    cases h
    obtain ⟨xs, hx, hl⟩ := hR.tv k _ ht
    have := List.eq_nil_of_length_eq_zero hl.1.symm
    subst this
    have hlt : k < a.tmps.size := by rw [<- hR.size]; exact (List.getElem?_eq_some_iff.1 ht).1
    have h2 : a.tmps[k]? = some (.tuple #[]) := by
     rw [Array.getD_eq_getD_getElem?, Array.getElem?_eq_getElem hlt] at hx
     rw [Array.getElem?_eq_getElem hlt]
     simpa using hx
    simp only [yielded, hk, Option.bind_some, h2]
    cases b' <;> rfl
   ·cases h
theorem KD (w : World) (S : Nat -> Prop) (γ : Path -> Option Loc) : aD w S γ (.tup []) undef := ⟨[], rfl, .nil⟩
def BP (Ty : Types) (np : Nat) (ops : Array Oper) : List Nat -> St -> Option St
 | [], st => some st
 | i :: rest, st => match ops[i]? with
  | none => BP Ty np ops rest st
  | some o => match dm ops st o with
   | some true => match step Ty np st o with
    | some st' => BP Ty np ops rest st'
    | none => none
   | some false => BP Ty np ops rest (st.put o.dst (.tup []))
   | none => none
theorem HX {Ty : Types} (hTy : lT P Ty) {ops : Array Oper} {l2 : List Nat} : ∀ (l1 : List Nat) {st st1 : St}, BP Ty B.np ops l1 st = some st1 -> yc P B ops l2 Q st1 -> yc P B ops (l1 ++ l2) Q st
 | [], st, st1, h, k => by cases h; exact k
 | i :: l1, st, st1, h, k => fun a w hR => by
  simp only [BP] at h
  show wpOps P ops (Bt B Q) (i :: (l1 ++ l2)) a w
  unfold wpOps
  split at h
  ·rename_i ho
   rw [ho]
   exact HX hTy l1 h k a w hR
  ·rename_i o ho
   rw [ho]
   obtain ⟨S, γ, hR', hS⟩ := hR
   split at h
   ·rename_i hw
    show if Region.wanted o (yielded ops a.tmps) = true then _ else _
    rw [if_pos (cV hR' hw)]
    split at h
    ·rename_i st' hs
     obtain ⟨nx, v, w', h1, h2, h3⟩ := Hk (P := P) hTy ⟨S, γ, hR', hS⟩ hs
     refine .inl ?_
     unfold Oper.wp
     rw [h1]
     rcases h2 with rfl | ⟨rfl, rfl⟩
     ·exact HX hTy l1 h k _ _ h3
     ·exact HX hTy l1 h k _ _ h3
    ·cases h
   ·rename_i hw
    show if Region.wanted o (yielded ops a.tmps) = true then _ else _
    rw [if_neg (by rw [cV hR' hw]; simp)]
    exact HX hTy l1 h k _ _ ⟨S, γ, hR'.put (KD _ _ _) o.dst, hS⟩
   ·cases h
def T1.roots : T1 -> List Nat
 | .pl ((i, _) :: _) _ _ => [i]
 | .so [] i _ _ => [i]
 | .so ((i, _) :: _) _ _ _ => [i]
 | .sp ((i, _) :: _) _ _ => [i]
 | _ => []
def St.live (ks : List Nat) (st : St) : List Nat := ks.flatMap fun k => match st.t[k]? with
 | some t => t.cells.flatMap T1.roots
 | none => []
def St.ka (ks : List Nat) (st : St) : St :=
 { t := st.t.mapIdx fun k t => if ks.contains k then t else .one .unk, m := st.m.mapIdx fun k r => if (st.live ks).contains k then r else [.dead] }
theorem bf.less {m m' : Rows} (h : bf w S m γ) (hm : ∀ i f c, at2 m' i f = some c -> at2 m i f = some c \/ c = .dead) : bf w S m' γ := by
 have key : ∀ q rows, q ≠ [] -> ay m' q = some rows -> ay m q = some rows := by
  intro q rows hq hr
  cases q with
  | nil => exact absurd rfl hq
  | cons x q =>
   obtain ⟨i, f⟩ := x
   simp only [ay] at hr ⊢
   cases hc : at2 m' i f with
   | none => rw [hc] at hr; cases hr
   | some c =>
    rw [hc] at hr
    rcases hm i f c hc with h1 | rfl
    ·rw [h1]; exact hr
    ·cases hr
 refine ⟨fun q rows hq hr => h.loc q rows hq (key q rows hq hr), fun q rows l i f c hq hr => h.cell q rows l i f c hq (key q rows hq hr), fun i f c hc => ?_,
  fun q q' rows rows' l l' hq hq' hr hr' => h.inj q q' rows rows' l l' hq hq' (key q rows hq hr) (key q' rows' hq' hr')⟩
 rcases hm i f c hc with h1 | rfl
 ·exact h.head i f c h1
 ·exact ⟨.bool true, rfl⟩
theorem Gf (ks : List Nat) (i f : Nat) (c : C) (h : at2 (st.ka ks).m i f = some c) : at2 st.m i f = some c \/ c = .dead := by
 unfold at2 at h ⊢
 simp only [St.ka, List.getElem?_mapIdx] at h
 cases hr : st.m[i]? with
 | none => rw [hr] at h; cases h
 | some r =>
  rw [hr] at h
  simp only [Option.map_some, Option.bind_some] at h
  split at h
  ·exact .inl h
  ·have := List.mem_of_getElem? h
   exact .inr (by simpa using this)
theorem iU (ks : List Nat) (h : lz B st a w) : lz B (st.ka ks) a w := by
 obtain ⟨S, γ, hR, hS⟩ := h
 have hkey : ∀ q rows, q ≠ [] -> ay (st.ka ks).m q = some rows -> ay st.m q = some rows := by
  intro q rows hq hr
  cases q with
  | nil => exact absurd rfl hq
  | cons x q =>
   obtain ⟨i, f⟩ := x
   simp only [ay] at hr ⊢
   cases hc : at2 (st.ka ks).m i f with
   | none => rw [hc] at hr; cases hr
   | some c =>
    rw [hc] at hr
    rcases Gf ks i f c hc with h1 | rfl
    ·rw [h1]; exact hr
    ·cases hr
 refine ⟨S, γ, ⟨hR.sS, hR.lt, hR.mem.less (Gf ks), fun k t hk => ?_, by simp [St.ka, hR.size], by simp [St.ka, hR.msize], hR.defers, fun q rows l hq hr => hR.own q rows l hq (hkey q rows hq hr), fun i f c hi hc hrows => ?_, hR.fr⟩, hS⟩
 ·simp only [St.ka, List.getElem?_mapIdx] at hk
  cases ht : st.t[k]? with
  | none => rw [ht] at hk; cases hk
  | some t0 =>
   rw [ht] at hk
   simp only [Option.map_some, Option.some.injEq] at hk
   split at hk
   ·subst hk; exact hR.tv k t0 ht
   ·subst hk; trivial
 ·rcases Gf ks i f c hc with h1 | rfl
  ·exact hR.fix i f c hi h1 hrows
  ·exact absurd rfl hrows
theorem Wo (ks : List Nat) {ops : Array Oper} {l : List Nat} (h : yc P B ops l Q (st.ka ks)) : yc P B ops l Q st := fun a w hR => h a w (iU ks hR)
def nQ (P : Program) (f : FuncId) : Prop := ∀ (args : Array Value) (w : World), (callFunc f args).run P w = .ok (.enter f args) w
theorem GO {f : FuncId} {args : Array Operand} {argTypes : Array TypeId} {o : Oper} (hop : o.op = .call { callee := .value (.func f), args, argTypes }) (hE : nQ P f) :
  (execOp a.eval o).run P w = .ok (.enter f (args.map a.eval)) w := by
 simp [execOp, hop, resolve, Deferred.ofValue, Act.eval, invoke, hE _ w]
def sR : T1 -> Bool
 | .unk => true
 | .c _ => true
 | .fp _ _ => true
 | _ => false
def Fk : TV -> Bool
 | .one t => sR t
 | .agg l => l.all sR
 | .tup _ => false
theorem oo {γ' : Path -> Option Loc} {t : T1} {x : Value} (h : sR t = true) (hv : au w S γ t x) : au w S γ' t x := by
 cases t <;> first | exact hv | cases h
theorem KX {γ' : Path -> Option Loc} {t : TV} {x : Value} (h : Fk t = true) (hv : aD w S γ t x) : aD w S γ' t x := by
 cases t with
 | one t => exact oo h hv
 | agg l =>
  obtain ⟨xs, hx, hl⟩ := hv
  simp only [Fk, List.all_eq_true] at h
  exact ⟨xs, hx, hl.imp fun t x ht hv => oo (h t ht) hv⟩
 | tup l => cases h
end
end Go.Mv
namespace Go.Mv
open Go.RowKit
def Wc (Ty : Types) (st : St) : ResultVar -> Option TV
 | .tmp t => some (evT st (.tmp t))
 | .cell a t => rR Ty st t (.tmp a)
def Ve (Ty : Types) (st : St) : List ResultVar -> Option (List TV)
 | [] => some []
 | r :: rs => match Wc Ty st r, Ve Ty st rs with
  | some t, some ts => some (t :: ts)
  | _, _ => none
def ZN : TV -> Option T2
 | .one t => some (.one t)
 | .agg l => some (.agg l)
 | .tup _ => none
def TC : List TV -> Option (List T2)
 | [] => some []
 | t :: ts => match ZN t, TC ts with
  | some x, some xs => some (x :: xs)
  | _, _ => none
def MW : List TV -> Option TV
 | [t] => some t
 | ts => (TC ts).map .tup
def XI (Ty : Types) (st : St) (rs : List ResultVar) : Option (TV × List C) :=
 match Ve Ty st rs with
 | none => none
 | some ts => match MW ts with
  | none => none
  | some t => match GC st.m t with
   | none => none
   | some (res, row, ps) => if ig ps then some (res, row) else none
def ZC (Ty : Types) (rs : List ResultVar) (res : TV) (row : List C) : AQ
 | .normal, st => XI Ty st rs = some (res, row)
 | .ret, st => XI Ty st rs = some (res, row)
 | _, _ => False
section
variable {P : Program} {Ty : Types} {B : da} {S : Nat -> Prop} {γ : Path -> Option Loc} {st : St} {a : Act} {w : World}
theorem Ky (hTy : lT P Ty) (hR : Rel B S γ st a w) {t : TypeId} {x : Operand} {tv : TV} (h : rR Ty st t x = some tv) :
  ∃ ad v, (asAddr (a.eval x)).run P w = .ok ad w /\ (loadVar t ad).run P w = .ok v w /\ aD w S γ tv v := by
 unfold rR at h
 split at h
 ·cases h
 ·rename_i i hi
  split at h
  ·rename_i p hp
   have hpv := hR.evT x
   rw [hp] at hpv
   cases hl : Bz st.m i.size p with
   | none => rw [hl] at h; cases h
   | some l =>
    rw [hl] at h
    obtain ⟨b, o', vals, hx, hlen, hc, hall⟩ := Ei hR hpv hl
    have hi' := hTy _ _ hi
    refine ⟨⟨b, o', none⟩, ?_⟩
    cases hagg : i.k.agg with
    | true =>
     have := oI (P := P) hi' hlen hc (.inl hagg)
     rw [hagg] at h this
     cases h
     exact ⟨_, by simp [hx, asAddr], this, vals, rfl, hall⟩
    | false =>
     rw [hagg] at h
     simp only [Option.bind_some, XV, Bool.false_eq_true, if_false] at h
     split at h
     ·rename_i t1
      cases h
      have h1 : i.size = 1 := by rw [<- hlen, <- hall.1]; rfl
      have := oI (P := P) hi' hlen hc (.inr h1)
      obtain ⟨v, vs, rfl, hv, hvs⟩ := hall.dQ
      rw [hagg] at this
      exact ⟨v, by simp [hx, asAddr], by simpa using this, hv⟩
     ·cases h
  ·cases h
def Kg (tmps : Array Value) : ResultVar -> Sem Value
 | .tmp t => pure (tmps.getD t undef)
 | .cell a t => do loadVar t (<- asAddr (tmps.getD a undef))
theorem Qr (hTy : lT P Ty) (hR : Rel B S γ st a w) {r : ResultVar} {tv : TV} (h : Wc Ty st r = some tv) : ∃ v, (Kg a.tmps r).run P w = .ok v w /\ aD w S γ tv v := by
 cases r with
 | tmp t => cases h; exact ⟨a.tmps.getD t undef, rfl, hR.evT (.tmp t)⟩
 | cell x t =>
  obtain ⟨ad, v, h1, h2, h3⟩ := Ky hTy hR (x := .tmp x) h
  refine ⟨v, ?_, h3⟩
  have h1' : (asAddr (a.tmps.getD x undef)).run P w = .ok ad w := h1
  simp only [Kg, Sem.run_bind, h1', Result.andThen_ok, h2]
theorem OB (hTy : lT P Ty) (hR : Rel B S γ st a w) : ∀ {rs : List ResultVar} {ts : List TV}, Ve Ty st rs = some ts -> ∃ vs, (rs.mapM (Kg a.tmps)).run P w = .ok vs w /\ cK (aD w S γ) ts vs
 | [], ts, h => by cases h; exact ⟨[], by simp, .nil⟩
 | r :: rs, ts, h => by
  simp only [Ve] at h
  split at h
  ·rename_i t ts' h1 h2
   cases h
   obtain ⟨v, g1, g2⟩ := Qr hTy hR h1
   obtain ⟨vs, k1, k2⟩ := OB hTy hR h2
   exact ⟨v :: vs, by simp [List.mapM_cons, g1, k1], .cons g2 k2⟩
  ·cases h
theorem KC : ∀ {ts : List TV} {xs : List T2} {vs : List Value}, TC ts = some xs -> cK (aD w S γ) ts vs -> cK (OX w S γ) xs vs
 | [], xs, vs, h, hv => by
  cases h
  have := List.eq_nil_of_length_eq_zero hv.1.symm
  subst this
  exact .nil
 | t :: ts, xs, vs, h, hv => by
  obtain ⟨v, vs, rfl, h1, h2⟩ := hv.dQ
  simp only [TC] at h
  split at h
  ·rename_i x xs' g1 g2
   cases h
   refine .cons ?_ (KC g2 h2)
   cases t with
   | one t => cases g1; exact h1
   | agg l => cases g1; exact h1
   | tup l => cases g1
  ·cases h
theorem tl (hTy : lT P Ty) (hR : Rel B S γ st a w) {fn : Func} {ts : List TV} {t : TV} (h : Ve Ty st fn.results.toList = some ts) (ht : MW ts = some t) :
  ∃ v, (results fn a.tmps).run P w = .ok v w /\ aD w S γ t v := by
 obtain ⟨vs, h1, h2⟩ := OB hTy hR h
 have hrun : (fn.results.mapM (Kg a.tmps)).run P w = .ok vs.toArray w := by
  rw [Array.mapM_eq_mapM_toList, Sem.run_map, h1]
  rfl
 have hres : (results fn a.tmps).run P w = .ok (if h : vs.toArray.size = 1 then vs.toArray[0] else .tuple vs.toArray) w := by
  have : results fn a.tmps = (do let vs <- fn.results.mapM (Kg a.tmps); pure (if h : vs.size = 1 then vs[0] else .tuple vs)) := by
   unfold results
   congr 2
  rw [this, Sem.run_bind, hrun]
  rfl
 refine ⟨_, hres, ?_⟩
 cases ts with
 | nil =>
  cases ht
  have := List.eq_nil_of_length_eq_zero h2.1.symm
  subst this
  exact ⟨[], rfl, .nil⟩
 | cons t0 ts =>
  cases ts with
  | nil =>
   cases ht
   obtain ⟨v, vs', rfl, g1, g2⟩ := h2.dQ
   have := List.eq_nil_of_length_eq_zero g2.1.symm
   subst this
   exact g1
  | cons t1 ts =>
   have hlen : vs.length = ts.length + 2 := by have := h2.1; simp at this; omega
   have hne : ¬ vs.toArray.size = 1 := by simp; omega
   rw [dif_neg hne]
   simp only [MW] at ht
   cases hx : TC (t0 :: t1 :: ts) with
   | none => rw [hx] at ht; cases ht
   | some xs =>
    rw [hx] at ht
    cases ht
    exact ⟨vs, rfl, KC hx h2⟩
theorem Yf {f : FuncId} {fn : Func} {c : Code} {args : List TV} {res : TV} {row : List C} (hTy : lT P Ty) (hf : P.funcs[f]? = some fn) (hb : fn.body = some c)
  (h : ∀ w S, (∀ b, S b -> b < w.heap.size) -> AWp P (Af w S) c (ZC Ty fn.results.toList res row) (pI args fn.ntmps)) : ab P f args res row := by
 intro w S vals hS hv
 have key := h w S hS _ _ (Rz (n := fn.ntmps) hS hv)
 refine calls_of_wp hf hb (wp_mono key fun e a w' hq => ?_)
 have done : ∀ st, XI Ty st fn.results.toList = some (res, row) -> lz (Af w S) st a w' ->
   a.defers = [] /\ ∃ v, (results fn a.tmps).run P w' = .ok v w' /\ ∃ u, Ending.returned v = .returned u /\ Ret w S w' res row u := by
  intro st he hR
  unfold XI at he
  split at he
  ·cases he
  ·rename_i ts hts
   split at he
   ·cases he
   ·rename_i t ht
    split at he
    ·cases he
    ·rename_i res' row' ps ho
     split at he
     ·rename_i hap
      cases he
      obtain ⟨S1, γ1, hR1, hSn⟩ := hR
      obtain ⟨v, h1, h2⟩ := tl hTy hR1 hts ht
      refine ⟨hR1.defers, v, h1, v, rfl, Qs ⟨S1, γ1, hR1, hSn⟩ (fun S2 γ2 hR2 => ?_) ho hap⟩
      obtain ⟨v2, h3, h4⟩ := tl hTy hR2 hts ht
      rw [h1] at h3
      cases h3
      exact h4
     ·cases he
 cases e with
 | normal => obtain ⟨st, h1, h2⟩ := hq; exact done st h1 h2
 | ret => obtain ⟨st, h1, h2⟩ := hq; exact done st h1 h2
 | panic c => exact hq.elim
 | outgrown => exact hq.elim
 | exit id => obtain ⟨st, h1, h2⟩ := hq; exact h1
 | goto l => obtain ⟨st, h1, h2⟩ := hq; exact h1
end
end Go.Mv
namespace Go.Mv
open Go.RowKit
def yM (P : Program) (ops : Array Oper) (Q : Exit -> Act -> World -> Prop) (N : List Nat) : Nat -> Array Bool -> Act -> World -> Prop
 | 0, listed, a, w => Region.ready .any ops listed = [] /\ Q .normal a w
 | fuel + 1, listed, a, w => (Region.ready .any ops listed = [] -> Q .normal a w) /\
   ∀ i ∈ Region.ready .any ops listed, wpOp P ops Q i (fun a' w' => (N.contains i = false -> sJ w w') /\ yM P ops Q N fuel (listed.setIfInBounds i true) a' w') a w
def mq (ops : Array Oper) (listed : Array Bool) (i : Nat) : Nat -> Nat -> Bool
 | 0, _ => false
 | n + 1, j => match ops[j]? with
  | none => false
  | some oj => oj.after.any fun e => Region.binds .any e && (e.on == i || (!listed.getD e.on true && mq ops listed i n e.on))
section
variable {P : Program} {ops : Array Oper} {Q : Exit -> Act -> World -> Prop} {N : List Nat}
theorem EO : ∀ (fuel : Nat) (listed : Array Bool) (a : Act) (w : World), yM P ops Q N fuel listed a w -> wpAny P .any ops Q fuel listed a w
 | 0, _, _, _, h => h
 | fuel + 1, _, _, _, h => ⟨h.1, fun i hi => wpOp_mono (fun a' w' h' => EO fuel _ a' w' h'.2) (h.2 i hi)⟩
theorem tj {listed : Array Bool} {i j : Nat} (hi : listed.getD i true = false) (hj : j ∈ Region.ready .any ops listed) : ∀ n, mq ops listed i n j = false := by
 intro n
 cases n with
 | zero => rfl
 | succ n =>
  obtain ⟨_, oj, hoj, hall⟩ := mem_ready.1 hj
  simp only [mq, hoj]
  rw [Bool.eq_false_iff]
  intro hx
  obtain ⟨e, he, hb⟩ := Array.any_eq_true'.1 hx
  simp only [Bool.and_eq_true, Bool.or_eq_true, beq_iff_eq, Bool.not_eq_true'] at hb
  have g1 := hall e he hb.1
  have key : ∀ k, listed.getD k true = false -> listed.getD k false = true -> False := fun k a b => by
   simp only [Array.getD_eq_getD_getElem?] at a b
   cases hg : listed[k]? with
   | none => rw [hg] at b; cases b
   | some x => rw [hg] at a b; simp at a b; rw [a] at b; cases b
  rcases hb.2 with heq | ⟨hu, _⟩
  ·exact key e.on (heq ▸ hi) (by simpa [Array.getD_eq_getD_getElem?] using g1)
  ·exact key e.on hu (by simpa [Array.getD_eq_getD_getElem?] using g1)
theorem xg {listed : Array Bool} {i j0 : Nat} (hi : listed.getD i true = false) (hj : j0 ∈ Region.ready .any ops listed) : ∀ (n k : Nat), mq ops listed i n k = true -> mq ops (listed.setIfInBounds j0 true) i n k = true
 | 0, _, h => by cases h
 | n + 1, k, h => by
  simp only [mq] at h ⊢
  split at h
  ·cases h
  ·rename_i ok hk
   obtain ⟨e, he, hb⟩ := Array.any_eq_true'.1 h
   refine Array.any_eq_true'.2 ⟨e, he, ?_⟩
   simp only [Bool.and_eq_true, Bool.or_eq_true, beq_iff_eq, Bool.not_eq_true'] at hb ⊢
   refine ⟨hb.1, hb.2.imp id fun ⟨hu, hw⟩ => ?_⟩
   have hne : j0 ≠ e.on := fun heq => by
    rw [<- heq, tj hi hj n] at hw
    cases hw
   exact ⟨by rw [getD_set_ne true hne]; exact hu, xg hi hj n e.on hw⟩
theorem KJ {i : Nat} {oi : Oper} {v : Value} (hi : ops[i]? = some oi) (hsel : Region.noSelect ops = true) (hQ : ∀ c a w, ¬ Q (.panic c) a w) : ∀ (fuel : Nat) (listed : Array Bool) (a : Act) (w : World),
  (∀ j oj, ops[j]? = some oj -> j ≠ i -> listed.getD j true = false -> (∀ n, mq ops listed i n j = false) -> oi.apart ops oj = true /\ N.contains j = false) ->
  i ∈ Region.ready .any ops listed -> YieldsIf P ops (sJ w) oi v a -> yM P ops Q N fuel (listed.setIfInBounds i true) (a.put oi.dst v) w -> yM P ops Q N (fuel + 1) listed a w := by
 intro fuel
 induction fuel with
 | zero =>
  intro listed a w _ hr hy H
  refine ⟨fun h => (by rw [h] at hr; cases hr), fun j hj => ?_⟩
  by_cases hji : j = i
  ·subst hji; exact hy.wpOp hi (sJ.refl w) ⟨fun _ => sJ.refl w, H⟩
  ·have := ready_mono hj hji
   rw [H.1] at this
   cases this
 | succ fuel ih =>
  intro listed a w hfree hr hy H
  refine ⟨fun h => (by rw [h] at hr; cases hr), fun j hj => ?_⟩
  by_cases hji : j = i
  ·subst hji; exact hy.wpOp hi (sJ.refl w) ⟨fun _ => sJ.refl w, H⟩
  ·obtain ⟨hjun, oj, hoj, hall⟩ := mem_ready.1 hj
   have hun := (mem_ready.1 hr).1
   obtain ⟨hap, hN⟩ := hfree j oj hoj hji hjun (tj hun hj)
   have h2 := wpOp_putIf hoj hap (fun cs b => Region.noSelect_spec hsel i oi cs b hi) (fun cs b => Region.noSelect_spec hsel j oj cs b hoj) (fun c a w h => absurd h (hQ c _ w)) hy (H.2 j (ready_mono hj hji))
   refine wpOp_mono (fun a' w' h3 => ?_) h2
   obtain ⟨hy', hk, hrest⟩ := h3
   have hkeep := hk hN
   refine ⟨fun _ => hkeep, ih (listed.setIfInBounds j true) a' w' (fun k ok hk hki hun2 hno => hfree k ok hk hki ?_ fun n => ?_) (ready_mono hr (Ne.symm hji)) ?_ ?_⟩
   ·by_cases hjk : j = k
    ·subst hjk; exact hjun
    ·rw [getD_set_ne true hjk] at hun2; exact hun2
   ·rw [Bool.eq_false_iff]
    intro hx
    have := xg hun hj n k hx
    rw [hno n] at this
    cases this
   ·exact hy'.imp (fun ⟨h1, h2⟩ => ⟨h1, fun w'' hw => h2 w'' (hkeep.trans hw)⟩) id
   ·rw [Array.setIfInBounds_comm _ _ hji]
    exact hrest
end
def KN (P : Program) (B : da) (ops : Array Oper) (Q : AQ) (N : List Nat) (fuel : Nat) (listed : Array Bool) (st : St) : Prop := ∀ a w, lz B st a w -> yM P ops (Bt B Q) N fuel listed a w
def XC (P : Program) (B : da) (ops : Array Oper) (Q : AQ) (N : List Nat) (fuel : Nat) (listed : Array Bool) (st : St) (i : Nat) : Prop :=
 ∀ a w, lz B st a w -> wpOp P ops (Bt B Q) i (fun a' w' => (N.contains i = false -> sJ w w') /\ yM P ops (Bt B Q) N fuel (listed.setIfInBounds i true) a' w') a w
def ZH (P : Program) (B : da) (ops : Array Oper) (Q : AQ) (N : List Nat) (fuel : Nat) (listed : Array Bool) (st : St) (rs : List Nat) : Prop := ∀ i ∈ rs, XC P B ops Q N fuel listed st i
section
variable {P : Program} {Ty : Types} {B : da} {S : Nat -> Prop} {γ : Path -> Option Loc} {st : St} {a : Act} {w : World} {Q : AQ} {ops : Array Oper} {N : List Nat} {fuel : Nat} {listed : Array Bool}
theorem Bu (c : List PanicEntry) (a : Act) (w : World) : ¬ Bt B Q (.panic c) a w := id
theorem QX (hr : Region.ready .any ops listed = []) (h : Q .normal st) : KN P B ops Q N fuel listed st := fun a w hR => by
 cases fuel with
 | zero => exact ⟨hr, st, h, hR⟩
 | succ fuel => exact ⟨fun _ => ⟨st, h, hR⟩, by rw [hr]; simp⟩
theorem XS (rs : List Nat) (hr : Region.ready .any ops listed = rs) (hne : rs.isEmpty = false) (h : ZH P B ops Q N fuel listed st rs) : KN P B ops Q N (fuel + 1) listed st := fun a w hR =>
 ⟨fun h0 => (by rw [hr] at h0; subst h0; cases hne), fun i hi => h i (hr ▸ hi) a w hR⟩
theorem Ut (h : lz B st a w) : lz B st a { w with drawn := w.drawn + 1 } := by
 obtain ⟨S, γ, hR, hS⟩ := h
 exact ⟨S, γ, hR.drew, hS⟩
theorem XO {id : Nat} (hm : P.follows .mixedOrders = true) (N : List Nat) (h : KN P B ops Q N ops.size (Array.replicate ops.size false) st) : AWp P B (.region id ops true) Q st := fun a _ hR =>
 wp_region_any hm (EO _ _ _ _ (h a _ (Ut hR)))
abbrev iV (n : Int) : TV := .one (.c (.v (.int .i64 n)))
abbrev bV (b : Bool) : TV := .one (.c (.v (.bool b)))
abbrev sV (s : ByteArray) : TV := .one (.c (.v (.string s)))
abbrev iC (n : Int) : C := .v (.int .i64 n)
abbrev bC (b : Bool) : C := .v (.bool b)
abbrev sC (s : ByteArray) : C := .v (.string s)
def Zu (n : Nat) (l : List (Nat × TV)) : List TV := (List.range n).map fun k => ((l.find? fun p => p.1 == k).map (·.2)).getD (.one .unk)
def holds (n : Nat) (l : List (Nat × List C)) : Rows := (List.range n).map fun k => ((l.find? fun p => p.1 == k).map (·.2)).getD [.dead]
def mk (n : Nat) (l : List (Nat × TV)) (m : List (Nat × List C)) : St := { t := Zu n l, m := holds n m }
def Zw (l : List (Nat × jj)) : Types := fun t => (l.find? fun p => p.1 == t).map (·.2)
theorem Xx {l : List (Nat × jj)} (h : ∀ p ∈ l, p.2.OK P p.1) : lT P (Zw l) := fun t i hi => by
 unfold Zw at hi
 cases hf : l.find? (fun p => p.1 == t) with
 | none => rw [hf] at hi; cases hi
 | some p =>
  rw [hf] at hi
  cases hi
  have h1 := List.find?_some hf
  have h2 := List.mem_of_find?_eq_some hf
  simp only [beq_iff_eq] at h1
  subst h1
  exact h p h2
end
end Go.Mv
namespace Go.Mv
open Go.RowKit
def T1.freeze (q : Path) (i f : Nat) (c : C) : T1 -> T1
 | .so q' i' f' n => if q' = q /\ i' = i /\ f' = f /\ fits c (some n) = true then .c c else (T1.so q' i' f' n).forget (q ++ [(i, f)])
 | .pl p 0 0 => if p = q ++ [(i, f)] /\ fits c none = true then .c c else (T1.pl p 0 0).forget (q ++ [(i, f)])
 | t => t.forget (q ++ [(i, f)])
def wB (np : Nat) (st : St) (q : Path) (i f : Nat) : Option St :=
 if q.isEmpty && decide (i < np) then none else
 match ay st.m q with
 | none => none
 | some rows => match at2 rows i f with
  | none => none
  | some c => match ay (bh st.m q (bz rows i f .dead)) q with
   | none => none
   | some rows1 => match at2 rows1 i f with
    | none => none
    | some _ => some { t := st.t.map (TV.bX (T1.freeze q i f c)), m := bh (bh st.m q (bz rows i f .dead)) q (bz rows1 i f (.fz c)) }
section
variable {P : Program} {Ty : Types} {B : da} {S : Nat -> Prop} {γ : Path -> Option Loc} {st : St} {a : Act} {w : World} {Q : AQ}
theorem RE {c : C} {n : Nat} (h : fits c (some n) = true) : ∃ sz rs, c = .sl sz rs /\ rs.length = n := by
 cases c <;> simp [fits] at h
 exact ⟨_, _, rfl, h⟩
theorem RD {c : C} (h : fits c none = true) : ∃ r, c = .bx r := by
 cases c <;> simp [fits] at h
 exact ⟨_, rfl⟩
theorem Ps {st' : St} {q : Path} {i f : Nat} (hR : Rel B S γ st a w) (hSn : ∀ b, S b -> B.S b \/ B.w.heap.size <= b) (h : wB B.np st q i f = some st')
  (hnew : ∀ rows c s rs l, ay st.m q = some rows -> at2 rows i f = some c -> cS c s = some rs -> γ (q ++ (i, f) :: s) = some l -> B.w.heap.size <= l.b) : lz B st' a w := by
 unfold wB at h
 split at h
 ·cases h
 rename_i hnp
 split at h
 ·cases h
 rename_i rows hq
 split at h
 ·cases h
 rename_i c hc
 split at h
 ·cases h
 rename_i rows1 hq1
 split at h
 ·cases h
 rename_i c1 hc1
 cases h
 obtain ⟨v, hv, hvc⟩ : ∃ v, Hdr w S c (γ (q ++ [(i, f)])) v /\ (∀ l, q ≠ [] -> γ q = some l -> w.cell? ⟨l.b, l.off + i * l.sz + f, none⟩ = some v) := by
  by_cases hne : q = []
  ·obtain ⟨v, hv⟩ := hR.mem.mC hq hc
   exact ⟨v, hv, fun _ hn => absurd hne hn⟩
  ·cases hl : γ q with
   | none =>
    have := hR.mem.loc q rows hne hq
    rw [hl] at this
    rw [(show rows = [] from this)] at hc
    simp [at2] at hc
   | some l =>
    obtain ⟨v, h1, h2⟩ := hR.mem.cell q rows l i f c hne hq hl hc
    exact ⟨v, h2, fun l' _ hl' => by cases hl'; exact h1⟩
 have hdet := hR.mem.det hq hc hv
 let S' : Nat -> Prop := fun b => S b \/ ∃ s rs l, cS c s = some rs /\ γ (q ++ (i, f) :: s) = some l /\ l.b = b
 have hSS : ∀ b, S b -> S' b := fun b hb => .inl hb
 have hrep : gd w S' c v := Det.rep hSS c _ v hdet fun s rs l hg hl => .inr ⟨s, rs, l, hg, hl, rfl⟩
 have hkill := hR.mem.kill hq hc
 have key := @fm st.m rows q i f .dead c hq hc
 have hR1 : Rel B S (nd γ q i f fun _ => none) { t := st.t.map (TV.bX (T1.forget (q ++ [(i, f)]))), m := bh st.m q (bz rows i f .dead) } a w :=
  hR.Oy (x := .dead) (δ := fun _ => none) hkill hq hc (fun _ _ => rfl) (Nat.le_refl _) hR.fr (fun s rs l hg => by simp [cS, C.rows] at hg) (fun _ _ hd => absurd rfl hd)
 have hmem : bf w S' (bh st.m q (bz rows i f .dead)) (nd γ q i f fun _ => none) := hkill.frame hSS (fun _ _ => rfl) fun p rs l hp hr hl => by
  refine ⟨rfl, fun hs => ?_⟩
  rcases hs with hs | ⟨s, rs', l', hg, hl', hb⟩
  ·have := hkill.loc p rs hp hr
   rw [hl] at this
   exact this.1 hs
  ·rcases key p rs hr with ⟨s2, _, hg2⟩ | ⟨hn, rs0, hg0, _⟩
   ·simp [cS, C.rows] at hg2
   ·rw [bu hn] at hl
    have := hR.mem.inj p (q ++ (i, f) :: s) rs0 rs' l l' hp (by simp) hg0 (by rw [ca hq hc]; exact hg) hl hl' hb.symm
    exact hn (this ▸ ⟨s, by simp⟩)
 have hlt : ∀ b, S' b -> b < w.heap.size := fun b hb => by
  rcases hb with hb | ⟨s, rs, l, hg, hl, rfl⟩
  ·exact hR.lt b hb
  ·have := hdet.loc s rs hg
   simp only [hl] at this
   obtain ⟨_, _, _, cells, e, lo, hi, h4, _⟩ := this
   exact bT h4
 have hR2 : Rel B S' (nd γ q i f fun _ => none) { t := st.t.map (TV.bX (T1.forget (q ++ [(i, f)]))), m := bh st.m q (bz rows i f .dead) } a w :=
  ⟨fun b hb => hSS b (hR1.sS b hb), hlt, hmem, fun k t hk => aD.imp (fun _ _ ht => au.frame hSS (fun _ _ => rfl) ht) (hR1.tv k t hk), hR1.size, hR1.msize, hR1.defers, hR1.own, hR1.fix, hR1.fr⟩
 have hfz : Det w S' (.fz c) (fun _ => none) v := Det.th rfl hrep
 have hput : bf w S' (bh (bh st.m q (bz rows i f .dead)) q (bz rows1 i f (.fz c))) (nd (nd γ q i f fun _ => none) q i f fun _ => none) :=
  hmem.rC hfz (pk.th rfl) hq1 hc1 (fun _ _ _ _ _ _ cells _ _ hh => ⟨cells, hh, rfl⟩) (fun _ _ _ _ _ _ _ _ _ _ _ => rfl)
   (fun l hne hl => hvc l hne (by rw [<- hl]; exact (bu (fun hp => by have := hp.length_le; simp at this; omega)).symm)) (fun _ _ => rfl)
 have hR3 := hR2.ZG hput hq1 hc1 rfl (fun _ _ => rfl) (Nat.le_refl _) hR2.fr
 have hone : ∀ t x, au w S γ t x -> au w S' (nd γ q i f fun _ => none) (t.freeze q i f c) x := by
  intro t x ht
  have hfor : au w S' (nd γ q i f fun _ => none) (t.forget (q ++ [(i, f)])) x := au.forget (dB γ _ q i f) (au.frame hSS (fun _ _ => rfl) ht)
  cases t with
  | so q' i' f' n =>
   show au w S' _ (if _ then _ else _) x
   split
   ·rename_i hcond
    obtain ⟨rfl, rfl, rfl, hfit⟩ := hcond
    obtain ⟨sz, rs, rfl, rfl⟩ := RE hfit
    have hxv : x = v := by
     rcases ht with ⟨l, hl, hx, _⟩ | ⟨hl, h0, hx⟩
     ·rw [hl] at hv; rw [hx, hv.1]
     ·rw [hl] at hv; rw [hx, hv.2]
    rw [hxv]
    exact hrep
   ·exact hfor
  | pl p i' f' =>
   cases i' with
   | succ i' => exact hfor
   | zero =>
    cases f' with
    | succ f' => exact hfor
    | zero =>
     show au w S' _ (if _ then _ else _) x
     split
     ·rename_i hcond
      obtain ⟨rfl, hfit⟩ := hcond
      obtain ⟨r, rfl⟩ := RD hfit
      obtain ⟨l, hl, hx⟩ := ht
      have hxv : x = v := by
       rw [hl] at hv
       rw [hx, show v = .pointer (some ⟨l.b, l.off, none⟩) from hv]
       simp
      rw [hxv]
      exact hrep
     ·exact hfor
  | _ => exact hfor
 refine ⟨S', _, ⟨hR3.sS, hR3.lt, hR3.mem, fun k t hk => ?_, by simp [hR.size], hR3.msize.trans (by simp), hR3.defers, hR3.own, hR3.fix, hR3.fr⟩, fun b hb => ?_⟩
 ·obtain ⟨t0, ht0, rfl⟩ := ax hk
  exact aD.bX hone (hR.tv k t0 ht0)
 ·rcases hb with hb | ⟨s, rs, l, hg, hl, rfl⟩
  ·exact hSn b hb
  ·exact .inr (hnew rows c s rs l hq hc hg hl)
theorem DN (hF : ∀ b o, ¬ B.F b o) {st' : St} {q : Path} {i f : Nat} (hR : lz B st a w) (h : wB B.np st q i f = some st') : lz B st' a w := by
 obtain ⟨S, γ, hR, hSn⟩ := hR
 refine Ps hR hSn h fun rows c s rs l hq hc hg hl => ?_
 rcases hR.own (q ++ (i, f) :: s) rs l (by simp) (by rw [ca hq hc]; exact hg) hl with h1 | ⟨⟨o, ho⟩, _⟩
 ·exact h1
 ·exact absurd ho (hF _ o)
def LB (Ty : Types) (ops : Array Oper) (st : St) (i : Nat) : Option (Nat × Nat × Rows × Int) :=
 match ops[i]? with
 | none => none
 | some o => match dm ops st o, o.dst, o.op with
  | some true, some d, .indexAddr t x ix => match Ty t with
   | none => none
   | some ti => match ti.k with
    | .slice e => match Ty e with
     | none => none
     | some ei => match evT st x, evT st ix with
      | .one (.c (.sl _ rows)), .one (.c (.v (.int _ n))) => some (d, ei.size, rows, n)
      | _, _ => none
    | _ => none
  | _, _, _ => none
theorem UH {ops : Array Oper} {i d size : Nat} {n : Int} {rows : Rows} {row : List C} (h : LB Ty ops st i = some (d, size, rows, n)) (h0 : 0 <= n) (hr : rows[n.toNat]? = some row) (hl : row.length = size) :
  ∃ o, ops[i]? = some o /\ dm ops st o = some true /\ o.dst = some d /\ dR Ty st o.op = some (.one (.fp row 0)) := by
 unfold LB at h
 split at h
 ·cases h
 rename_i o ho
 split at h
 ·rename_i d' t x ix hw hd hop
  split at h
  ·cases h
  rename_i ti hti
  split at h
  ·rename_i e hk
   split at h
   ·cases h
   rename_i ei hei
   split at h
   ·rename_i sz rows' kd k' hx hix
    cases h
    refine ⟨o, ho, hw, hd, ?_⟩
    have hlt : n.toNat < rows.length := (List.getElem?_eq_some_iff.1 hr).1
    simp only [hop, dR, kh, hti, hk, hei, hix, KQ, hx]
    simp only [indexAt]
    rw [if_pos ⟨h0, by omega⟩]
    simp only [hr]
    rw [if_pos hl]
   ·cases h
  ·cases h
 ·cases h
def oh (ops : Array Oper) (st : St) (i : Nat) : Option (FuncId × Nat × List TV) :=
 match ops[i]? with
 | none => none
 | some o => match dm ops st o, o.dst, o.op with
  | some true, some d, .call { callee := .value (.func f), args, argTypes := _ } => some (f, d, args.toList.map (evT st))
  | _, _, _ => none
theorem om {ops : Array Oper} {i d : Nat} {f : FuncId} {A : List TV} (h : oh ops st i = some (f, d, A)) :
  ∃ (o : Oper) (args : Array Operand) (argTypes : Array TypeId), ops[i]? = some o /\ o.op = .call { callee := .value (.func f), args, argTypes } /\ dm ops st o = some true /\ o.dst = some d /\ args.toList.map (evT st) = A := by
 unfold oh at h
 split at h
 ·cases h
 rename_i o ho
 split at h
 ·rename_i d' f' args argTypes hw hd hop
  cases h
  exact ⟨o, args, argTypes, ho, hop, hw, hd, rfl⟩
 ·cases h
section
variable {ops : Array Oper} {N : List Nat} {fuel : Nat} {listed : Array Bool}
end
def el {α : Type} [Inhabited α] (xs : List α) (n : Int) : α := (xs[n.toNat]?).getD default
theorem Ld {α : Type} {xs : List α} {k : Nat} {x : α} (h : xs[k]? = some x) : xs.drop k = x :: xs.drop (k + 1) := by
 obtain ⟨hk, rfl⟩ := List.getElem?_eq_some_iff.1 h
 exact List.drop_eq_getElem_cons hk
theorem Mw {n : Int} (h0 : -9223372036854775808 <= n) (h1 : n < 9223372036854775808) : IntKind.i64.wrap n = n := by
 rw [IntKind.wrap_i64]
 omega
end
end Go.Mv
namespace Go.Mv
open Go.RowKit
theorem oQ {rows : Rows} {n f : Nat} {row : List C} {x : C} (h : rows[n]? = some row) : bz rows n f x = rows.set n (row.set f x) := by
 apply List.ext_getElem?
 intro j
 unfold bz
 by_cases hj : n = j
 ·subst hj
  have hlt := (List.getElem?_eq_some_iff.1 h).1
  rw [List.getElem?_modify_eq, h, List.getElem?_set_self hlt]
  rfl
 ·rw [List.getElem?_modify_ne _ _ hj, List.getElem?_set_ne hj]
theorem Cb {m r0 r1 r2 : Rows} {q : Path} (h : ay m q = some r0) (h1 : r1.length = r0.length) : bh (bh m q r1) q r2 = bh m q r2 := by
 induction q generalizing m with
 | nil => rfl
 | cons a q ih =>
  obtain ⟨i, f⟩ := a
  simp only [ay] at h
  cases hc : at2 m i f with
  | none => rw [hc] at h; cases h
  | some c =>
   rw [hc] at h
   simp only [Option.bind_some] at h
   cases hr : c.rows with
   | none => rw [hr] at h; cases h
   | some cr =>
    rw [hr] at h
    simp only [Option.bind_some] at h
    simp only [bh, hc, hr]
    rw [dy hc]
    simp only [C.oH hr (eg cr q r0 r1 h h1)]
    have hw : (c.eI (bh cr q r1)).eI (bh (bh cr q r1) q r2) = c.eI (bh cr q r2) := by
     rw [ih h]
     cases c <;> rfl
    rw [hw]
    unfold bz
    rw [List.modify_modify_eq]
    congr 1
    funext r
    simp
theorem ln {m r0 : Rows} {q : Path} (h : ay m q = some r0) : bh m q r0 = m := by
 induction q generalizing m with
 | nil => cases h; rfl
 | cons a q ih =>
  obtain ⟨i, f⟩ := a
  simp only [ay] at h
  cases hc : at2 m i f with
  | none => rw [hc] at h; cases h
  | some c =>
   rw [hc] at h
   simp only [Option.bind_some] at h
   cases hr : c.rows with
   | none => rw [hr] at h; cases h
   | some cr =>
    rw [hr] at h
    simp only [Option.bind_some] at h
    simp only [bh, hc, hr, ih h]
    have hw : c.eI cr = c := by cases c <;> simp [C.rows] at hr <;> subst hr <;> rfl
    rw [hw]
    unfold at2 at hc
    cases hrow : m[i]? with
    | none => rw [hrow] at hc; cases hc
    | some row =>
     rw [hrow] at hc
     simp only [Option.bind_some] at hc
     rw [oQ hrow]
     have e1 : row.set f c = row := by
      apply List.ext_getElem?
      intro j
      by_cases hj : f = j
      ·subst hj; rw [List.getElem?_set_self (List.getElem?_eq_some_iff.1 hc).1, hc]
      ·rw [List.getElem?_set_ne hj]
     rw [e1]
     apply List.ext_getElem?
     intro j
     by_cases hj : i = j
     ·subst hj; rw [List.getElem?_set_self (List.getElem?_eq_some_iff.1 hrow).1, hrow]
     ·rw [List.getElem?_set_ne hj]
def isC : T1 -> Bool
 | .c _ => true
 | _ => false
def yK (q : Path) (n : Nat) : List Nat -> Nat -> List C -> List T1 -> List TV -> Option (List TV)
 | _, _, _, [], t => some t
 | szs, f, c :: row, x :: ts, t => if isC x then
   yK q n szs.tail (f + 1) row ts (if c.rows.isSome || (lD (szs.headD 0) x).rows.isSome then t.map (TV.bX (T1.forget (q ++ [(n, f)]))) else t)
  else none
 | _, _, [], _ :: _, _ => none
theorem kr {x : T1} {a : Path} (h : isC x = true) : x.forget a = x := by cases x <;> first | rfl | cases h
theorem vb {ts : List T1} (a : Path) (fl : Bool) (h : ts.all isC = true) : ts.map (fgt fl a) = ts := by
 simp only [List.all_eq_true] at h
 have : ∀ t ∈ ts, fgt fl a t = t := fun t ht => by
  unfold fgt
  split
  ·exact kr (h t ht)
  ·rfl
 rw [List.map_congr_left this]
 simp
theorem xb {q : Path} {n : Nat} : ∀ {szs : List Nat} {f : Nat} {row : List C} {ts : List T1} {t t' : List TV}, yK q n szs f row ts t = some t' -> ts.all isC = true
 | _, _, _, [], _, _, _ => rfl
 | szs, f, c :: row, x :: ts, t, t', h => by
  simp only [yK] at h
  split at h
  ·rename_i hx
   simp only [List.all_cons, hx, Bool.true_and]
   exact xb h
  ·cases h
 | _, _, [], _ :: _, _, _, h => by cases h
theorem EH {q : Path} {n : Nat} : ∀ {ts : List T1} {szs : List Nat} {f : Nat} {row : List C} {st : St} {t' : List TV} {rows : Rows} {ds : List T1}, yK q n szs f (row.drop f) ts st.t = some t' -> ds.all isC = true ->
  ay st.m q = some rows -> rows[n]? = some row -> f + ts.length <= row.length ->
  ml st q n szs f ds ts = some ({ t := t', m := bh st.m q (rows.set n (row.take f ++ bt szs ts ++ row.drop (f + ts.length))) }, ds ++ ts)
 | [], szs, f, row, st, t', rows, ds, h, hds, hq, hr, hl => by
  have ht : t' = st.t := by
   cases szs <;> simp [yK] at h <;> exact h.symm
  subst ht
  have e : rows.set n (row.take f ++ bt szs [] ++ row.drop (f + ([] : List T1).length)) = rows := by
   have : row.take f ++ bt szs [] ++ row.drop (f + ([] : List T1).length) = row := by
    cases szs <;> simp [bt]
   rw [this]
   apply List.ext_getElem?
   intro j
   by_cases hj : n = j
   ·subst hj; rw [List.getElem?_set_self (List.getElem?_eq_some_iff.1 hr).1, hr]
   ·rw [List.getElem?_set_ne hj]
  rw [e, ln hq, ml]
  simp
 | x :: ts, szs, f, row, st, t', rows, ds, h, hds, hq, hr, hl => by
  simp only [List.length_cons] at hl
  have hf : f < row.length := by omega
  rw [List.drop_eq_getElem_cons hf] at h
  simp only [yK] at h
  split at h
  ·rename_i hx
   have hk : known x = true := by cases x <;> first | rfl | cases hx
   have hc : at2 rows n f = some row[f] := by simp [at2, hr, hf]
   have hs1 : ph st (szs.headD 0) q n f x = some ({ t := (if row[f].rows.isSome || (lD (szs.headD 0) x).rows.isSome then st.t.map (TV.bX (T1.forget (q ++ [(n, f)]))) else st.t), m := bh st.m q (rows.set n (row.set f (lD (szs.headD 0) x))) },
     row[f].rows.isSome || (lD (szs.headD 0) x).rows.isSome) := by
    unfold ph
    rw [hk]
    simp only [Bool.true_eq_false, if_false, hq, hc, oQ hr]
    split <;> simp_all
   rw [ml, hs1]
   simp only []
   have hts := xb h
   rw [vb _ _ hts, vb _ _ (by simp [hds, hx])]
   have hq' : ay (bh st.m q (rows.set n (row.set f (lD (szs.headD 0) x)))) q = some (rows.set n (row.set f (lD (szs.headD 0) x))) := by
    have := ck (s := []) (r' := rows.set n (row.set f (lD (szs.headD 0) x))) hq (by simp)
    simpa [ay] using this
   have hr' : (rows.set n (row.set f (lD (szs.headD 0) x)))[n]? = some (row.set f (lD (szs.headD 0) x)) := List.getElem?_set_self (List.getElem?_eq_some_iff.1 hr).1
   have ih := EH (st := { t := (if row[f].rows.isSome || (lD (szs.headD 0) x).rows.isSome then st.t.map (TV.bX (T1.forget (q ++ [(n, f)]))) else st.t), m := bh st.m q (rows.set n (row.set f (lD (szs.headD 0) x))) })
    (row := row.set f (lD (szs.headD 0) x)) (f := f + 1) (ds := ds ++ [x]) (szs := szs.tail) (ts := ts) (t' := t') (rows := rows.set n (row.set f (lD (szs.headD 0) x)))
    (by rw [List.drop_set_of_lt (by omega)]; exact h) (by simp [hds, hx]) hq' hr' (by simp; omega)
   rw [ih]
   have e2 : ((row.set f (lD (szs.headD 0) x)).take (f + 1) ++ bt szs.tail ts ++ (row.set f (lD (szs.headD 0) x)).drop (f + 1 + ts.length)) = row.take f ++ bt szs (x :: ts) ++ row.drop (f + (ts.length + 1)) := by
    rw [List.drop_set_of_lt (by omega), show f + 1 + ts.length = f + (ts.length + 1) by omega]
    have : (row.set f (lD (szs.headD 0) x)).take (f + 1) = row.take f ++ [lD (szs.headD 0) x] := by
     rw [List.take_add_one, List.take_set_of_le (Nat.le_refl _)]
     simp [hf]
    rw [this]
    cases szs <;> simp [bt]
   rw [e2]
   simp only [List.set_set, List.length_cons, List.append_assoc, List.singleton_append]
   rw [Cb hq (by simp)]
  ·cases h
end Go.Mv
namespace Go.Mv
open Go.RowKit
section
variable {P : Program} {Ty : Types} {B : da} {S : Nat -> Prop} {γ : Path -> Option Loc} {st : St} {a : Act} {w : World} {Q : AQ} {ops : Array Oper}
theorem VF {i : Nat} {l : List Nat} {o : Oper} {st' st1 : St} (ks : List Nat) (hTy : lT P Ty) (ho : ops[i]? = some o) (hw : dm ops st o = some true) (hs : step Ty B.np st o = some st') (hst : st'.ka ks = st1) (k : yc P B ops l Q st1) :
  yc P B ops (i :: l) Q st := by
 have h : BP Ty B.np ops [i] st = some st' := by
  simp only [BP, ho, hw, hs]
 exact HX hTy [i] h (Wo ks (hst ▸ k))
def NO (Ty : Types) (ops : Array Oper) (st : St) (i : Nat) : Option (Nat × Nat × Path × Rows × Int × Nat) :=
 match ops[i]? with
 | none => none
 | some o => match dm ops st o, o.dst, o.op with
  | some true, some d, .indexAddr t x ix => match Ty t with
   | none => none
   | some ti => match ti.k with
    | .slice e => match Ty e with
     | none => none
     | some ei => match evT st x, evT st ix with
      | .one (.so q i f n0), .one (.c (.v (.int _ n))) => match ay st.m (q ++ [(i, f)]) with
       | some rows => some (d, ei.size, q ++ [(i, f)], rows, n, n0)
       | none => none
      | _, _ => none
    | _ => none
  | _, _, _ => none
theorem od {p : Path} {i : Nat} : ∀ {ts : List T1} {st : St} {f : Nat}, ts.all isC = true -> bo st p i f ts = some st
 | [], st, f, _ => by rw [bo]
 | t :: ts, st, f, h => by
  simp only [List.all_cons, Bool.and_eq_true] at h
  have : oR t = none := by cases t <;> first | rfl | cases h.1
  rw [bo, this]
  exact od h.2
def Gm (Ty : Types) (ops : Array Oper) (st : St) (i : Nat) : Option (Nat × Nat × Nat × Int × Int × List C) :=
 match ops[i]? with
 | none => none
 | some o => match dm ops st o, o.dst, o.op with
  | some true, some d, .makeSlice t n c => match Ty t with
   | none => none
   | some ti => match ti.k with
    | .slice e => match Ty e with
     | none => none
     | some ei => match KQ (evT st n), KQ (evT st c), jH (yh ei.zero) with
      | some n, some c, some z => if z.length = ei.size /\ 0 < ei.bytes then some (d, ei.size, ei.bytes, n, c, bt ei.szs z) else none
      | _, _, _ => none
    | _ => none
  | _, _, _ => none
theorem Wp {i d size bytes : Nat} {n c : Int} {z : List C} {l : List Nat} {rows' : Rows} {st1 : St} (ks : List Nat) (hTy : lT P Ty) (h : Gm Ty ops st i = some (d, size, bytes, n, c, z)) (hnc : n = c) (h0 : 0 <= n)
  (hb : n.toNat * bytes <= 140737488355328) (hnp : (decide (B.np <= d) && (at2 st.m d 0).isSome) = true) (hrows : List.replicate n.toNat z = rows')
  (hst : St.ka ks (St.put { t := st.t.map (TV.bX (T1.forget [(d, 0)])), m := bz st.m d 0 (.sl size rows') } (some d) (.one (.so [] d 0 n.toNat))) = st1) (rest : yc P B ops l Q st1) : yc P B ops (i :: l) Q st := by
 unfold Gm at h
 split at h
 ·cases h
 rename_i o ho
 split at h
 ·rename_i d' t x y hw hd hop
  split at h
  ·cases h
  rename_i ti hti
  split at h
  ·rename_i e hk
   split at h
   ·cases h
   rename_i ei hei
   split at h
   ·rename_i n' c' z' hn hc hz
    split at h
    ·rename_i hcond
     cases h
     subst hnc hrows
     simp only [Bool.and_eq_true, decide_eq_true_eq] at hnp
     refine VF (o := o) ks hTy ho hw ?_ hst rest
     unfold step
     rw [hop]
     simp only [dR, hd, Ce, hti, hk, hei, hn, hc, hz]
     rw [if_pos ⟨trivial, h0, hcond.2, hb, hcond.1, hnp.1, hnp.2⟩]
     rfl
    ·cases h
   ·cases h
  ·cases h
 ·cases h
def Wj (c c' : C) : Prop := ∀ w S x, gd w S c x -> gd w S c' x
theorem WR {k : Nat} {c c' : C} (hi : Wj c c') (h : st.t[k]? = some (.one (.c c))) (hR : lz B st a w) : lz B { st with t := st.t.set k (.one (.c c')) } a w := by
 obtain ⟨S, γ, hR, hS⟩ := hR
 refine ⟨S, γ, ⟨hR.sS, hR.lt, hR.mem, fun j t hj => ?_, by simp [hR.size], by simp [hR.msize], hR.defers, hR.own, hR.fix, hR.fr⟩, hS⟩
 by_cases hk : k = j
 ·subst hk
  have hlt : k < st.t.length := (List.getElem?_eq_some_iff.1 h).1
  simp only [List.getElem?_set_self hlt, Option.some.injEq] at hj
  subst hj
  exact hi w S _ (hR.tv k _ h)
 ·simp only [List.getElem?_set_ne hk] at hj
  exact hR.tv j t hj
def uo (np : Nat) (st : St) (q : Path) (i f k : Nat) : Option (Nat × Rows × St) :=
 if q.isEmpty && decide (i < np) then none else
 match st.t[k]? with
 | some (.one (.so q' i' f' n)) => if q' = q /\ i' = i /\ f' = f then
   match ay st.m q with
   | none => none
   | some rows => match at2 rows i f with
    | some (.sl sz rs) => match ay (bh st.m q (bz rows i f .dead)) q with
     | none => none
     | some rows1 => match at2 rows1 i f with
      | none => none
      | some _ => some (n, rs, { t := (st.t.map (TV.bX (T1.forget (q ++ [(i, f)])))).set k (.one (.c (.sl sz rs))), m := bh (bh st.m q (bz rows i f .dead)) q (bz rows1 i f (.fz (.sl sz rs))) })
    | _ => none
  else none
 | _ => none
theorem Fw {q : Path} {i f : Nat} {c : C} : ∀ {t : T1} {x : Value}, au w S γ (t.freeze q i f c) x -> au w S γ (t.forget (q ++ [(i, f)])) x := by
 intro t x h
 cases t with
 | so q' i' f' n =>
  by_cases hc : q' = q /\ i' = i /\ f' = f /\ fits c (some n) = true
  ·obtain ⟨rfl, rfl, rfl, _⟩ := hc
   have : eV (q' ++ [(i', f')]) (q' ++ [(i', f')]) = true := eW (List.prefix_refl _)
   show au w S γ (if eV (q' ++ [(i', f')]) (q' ++ [(i', f')]) then .unk else _) x
   rw [if_pos this]
   trivial
  ·have e : (T1.so q' i' f' n).freeze q i f c = (T1.so q' i' f' n).forget (q ++ [(i, f)]) := if_neg hc
   rw [e] at h
   exact h
 | pl p i' f' =>
  cases i' with
  | succ i' => exact h
  | zero =>
   cases f' with
   | succ f' => exact h
   | zero =>
    by_cases hc : p = q ++ [(i, f)] /\ fits c none = true
    ·obtain ⟨rfl, _⟩ := hc
     have : eV (q ++ [(i, f)]) (q ++ [(i, f)]) = true := eW (List.prefix_refl _)
     show au w S γ (if eV (q ++ [(i, f)]) (q ++ [(i, f)]) then .unk else _) x
     rw [if_pos this]
     trivial
    ·have e : (T1.pl p 0 0).freeze q i f c = (T1.pl p 0 0).forget (q ++ [(i, f)]) := if_neg hc
     rw [e] at h
     exact h
 | _ => exact h
theorem IB (hF : ∀ b o, ¬ B.F b o) {q : Path} {i f k n : Nat} {rs : Rows} {st3 : St} (hR : lz B st a w) (h : uo B.np st q i f k = some (n, rs, st3)) (hn : rs.length = n) : lz B st3 a w := by
 unfold uo at h
 split at h
 ·cases h
 rename_i hnp
 split at h
 ·rename_i q' i' f' n' hk
  split at h
  ·rename_i hqq
   obtain ⟨rfl, rfl, rfl⟩ := hqq
   split at h
   ·cases h
   rename_i rows hq
   split at h
   ·rename_i sz rs' hc
    split at h
    ·cases h
    rename_i rows1 hq1
    split at h
    ·cases h
    rename_i c1 hc1
    cases h
    have hfz : wB B.np st q' i' f' = some { t := st.t.map (TV.bX (T1.freeze q' i' f' (.sl sz rs))), m := bh (bh st.m q' (bz rows i' f' .dead)) q' (bz rows1 i' f' (.fz (.sl sz rs))) } := by
     unfold wB
     rw [if_neg hnp]
     simp only [hq, hc, hq1, hc1]
    obtain ⟨S, γ, hR2, hS⟩ := DN hF hR hfz
    refine ⟨S, γ, ⟨hR2.sS, hR2.lt, hR2.mem, fun j t hj => ?_, by simpa using hR2.size, by simpa using hR2.msize, hR2.defers, hR2.own, hR2.fix, hR2.fr⟩, hS⟩
    by_cases hjk : k = j
    ·subst hjk
     have hlt : k < st.t.length := (List.getElem?_eq_some_iff.1 hk).1
     simp only [List.getElem?_set_self (show k < (st.t.map (TV.bX (T1.forget (q' ++ [(i', f')])))).length by simpa using hlt), Option.some.injEq] at hj
     subst hj
     have := hR2.tv k (TV.bX (T1.freeze q' i' f' (.sl sz rs)) (.one (.so q' i' f' n))) (by simp only [List.getElem?_map, hk, Option.map_some])
     have e : (T1.so q' i' f' n).freeze q' i' f' (.sl sz rs) = .c (.sl sz rs) := if_pos ⟨rfl, rfl, rfl, by simp [fits, hn]⟩
     simp only [TV.bX, e] at this
     exact this
    ·simp only [List.getElem?_set_ne hjk] at hj
     obtain ⟨t0, ht0, rfl⟩ := ax hj
     have := hR2.tv j (TV.bX (T1.freeze q' i' f' (.sl sz rs)) t0) (by simp only [List.getElem?_map, ht0, Option.map_some])
     have key : ∀ t x, au w S γ (T1.freeze q' i' f' (.sl sz rs) t) x -> au w S γ (T1.forget (q' ++ [(i', f')]) t) x := fun t x => Fw
     cases t0 with
     | one t => exact key t _ this
     | agg l =>
      obtain ⟨xs, hx, hl⟩ := this
      refine ⟨xs, hx, by simpa using hl.1, fun m y z hy hz => ?_⟩
      obtain ⟨t, ht, rfl⟩ := ax hy
      exact key t z (hl.2 m _ z (by rw [List.getElem?_map, ht]; rfl) hz)
     | tup l =>
      obtain ⟨xs, hx, hl⟩ := this
      refine ⟨xs, hx, by simpa using hl.1, fun m y z hy hz => ?_⟩
      obtain ⟨t, ht, rfl⟩ := ax hy
      have := hl.2 m _ z (by rw [List.getElem?_map, ht]; rfl) hz
      cases t with
      | one t => exact key t z this
      | agg l2 =>
       obtain ⟨ys, hy2, hl2⟩ := this
       refine ⟨ys, hy2, by simpa using hl2.1, fun m2 y2 z2 hy3 hz3 => ?_⟩
       obtain ⟨t, ht, rfl⟩ := ax hy3
       exact key t z2 (hl2.2 m2 _ z2 (by rw [List.getElem?_map, ht]; rfl) hz3)
   ·cases h
  ·cases h
 ·cases h
end
end Go.Mv
namespace Go.Mv
open Go.RowKit
def fv (P : Program) (t : TypeId) {α : Type} (e : α -> List C) (ok : α -> Prop) : Prop :=
 ∀ (H : Type) (enc : TypeId × Value -> H) (W : World) (fuel : Nat) (cs : List Value) (x : DataW H × List MemPlace), DataW.trod enc P W 0 (fun _ => true) true fuel t cs = some x -> (∀ n ∈ x.1.weights P t, n <= 140737488351232) ->
  ∃ y : α, bG W (fun b => b < W.heap.size) (e y) cs /\ ok y
section
variable {P : Program} {t : TypeId}
theorem JT (ht : P.underlying t = some .string) : fv P t (fun s : ByteArray => [sC s]) (fun s => s.size <= 140737488351232) := fun H enc W fuel cs x h hw => by
 obtain ⟨s, rfl, rfl, _⟩ := DataW.trod_string ht h
 exact ⟨s, .cons (.v rfl) .nil, by simpa [DataW.weights] using hw⟩
theorem Qo (ht : P.underlying t = some .bool) : fv P t (fun b : Bool => [bC b]) (fun _ => True) := fun H enc W fuel cs x h _ => by
 obtain ⟨s, rfl, _⟩ := DataW.trod_bool ht h
 exact ⟨s, .cons (.v rfl) .nil, trivial⟩
theorem JS {k : IntKind} (ht : P.underlying t = some (.int k)) : fv P t (fun n : Int => [.v (.int k n)]) (fun n => (Lit.int k n).wf = true) := fun H enc W fuel cs x h _ => by
 obtain ⟨s, rfl, _, hw⟩ := DataW.trod_int ht h
 exact ⟨s, .cons (.v rfl) .nil, hw⟩
theorem Rq {W : World} {b o n : Nat} {cs : List Value} (h : W.cells? 0 ⟨b, o, none⟩ n = some cs) : cs.length = n /\ ∀ (j : Nat) (v : Value), cs[j]? = some v -> W.cell? ⟨b, o + j, none⟩ = some v := by
 unfold World.cells? at h
 rw [if_pos (Nat.zero_le _)] at h
 have hl := mapM_some_length h
 rw [List.length_range] at hl
 refine ⟨hl, fun j v hj => ?_⟩
 have hlt : j < n := by rw [<- hl]; exact (List.getElem?_eq_some_iff.1 hj).1
 have := mapM_some_get h j j (List.getElem?_range hlt)
 rw [add_eq] at this
 rw [this, hj]
theorem sF {H : Type} {e : TypeId} : ∀ {ds : List (DataW H)} {d : DataW H}, d ∈ ds -> ∀ n ∈ d.weights P e, n ∈ DataW.weightsAll P e ds
 | d0 :: ds, d, hd, n, hn => by
  simp only [DataW.weightsAll, List.mem_append]
  rcases List.mem_cons.1 hd with rfl | hd
  ·exact .inl hn
  ·exact .inr (sF hd n hn)
theorem ea {α : Type} {e : TypeId} {en : α -> List C} {ok : α -> Prop} {sz bs : Nat} (ht : P.underlying t = some (.slice e)) (hc : P.cellsOf e = sz) (hbs : P.bytesOf e = bs) (hsz : 0 < sz) (he : fv P e en ok) :
  fv P t (fun xs : List α => [.sl sz (xs.map en)]) (fun xs => xs.length * bs <= 140737488351232 /\ ∀ x ∈ xs, ok x) := fun H enc W fuel cs x h hw => by
 rcases DataW.trod_slice ht h with ⟨rfl, _⟩ | ⟨a, len, cap, elems, rest, n, _, rfl, rfl, _, hl, hm, hlen, hel, _, _⟩
 ·exact ⟨[], .cons .nil .nil, by simp, by simp⟩
 ·rw [hc] at hel
  simp only [DataW.weights, ht, List.mem_cons, List.mem_append, hbs, List.length_map] at hw
  rcases Nat.eq_zero_or_pos len with h0 | h0
  ·subst h0
   exact ⟨[], .cons .nil .nil, by simp, by simp⟩
  ·have hz : ∀ i, i < len -> ∃ cs', W.cells? 0 (a.add (i * sz)) sz = some cs' /\ ∃ z, DataW.trod enc P W 0 (fun _ => true) true n e cs' = some z /\ ∀ m ∈ z.1.weights P e, m <= 140737488351232 := by
    intro i hi
    have h1 := hel i hi
    have h2 : elems[i]? = some elems[i] := List.getElem?_eq_getElem (by omega)
    rw [h2, Option.bind_eq_some_iff] at h1
    obtain ⟨cs', g1, g2⟩ := h1
    exact ⟨cs', g1, _, g2, fun m hm => hw m (.inr (.inl (sF (List.mem_map.2 ⟨elems[i], List.getElem_mem _, rfl⟩) m hm)))⟩
   obtain ⟨b, o, sp⟩ := a
   have hsp : sp = none := by
    obtain ⟨cs', g1, _⟩ := hz 0 h0
    rw [Nat.zero_mul] at g1
    unfold World.cells? at g1
    rw [if_pos (Nat.zero_le _)] at g1
    have hl2 := mapM_some_length g1
    rw [List.length_range] at hl2
    have g2 := mapM_some_get g1 0 0 (List.getElem?_range hsz)
    have e0 : (⟨b, o, sp⟩ : Addr).add 0 = ⟨b, o, sp⟩ := rfl
    rw [e0, e0, List.getElem?_eq_getElem (by omega)] at g2
    cases sp with
    | none => rfl
    | some s =>
     unfold World.cell? at g2
     split at g2 <;> simp at g2
   subst hsp
   have key : ∀ m, m <= len -> ∃ (ys : List α) (vals : List Value), ys.length = m /\ vals.length = m * sz /\ (∀ y ∈ ys, ok y) /\ (∀ r ∈ ys.map en, r.length = sz) /\ bG W (fun b => b < W.heap.size) (ys.map en).flatten vals /\
     (∀ (k : Nat) (v : Value), vals[k]? = some v -> W.cell? ⟨b, o + k, none⟩ = some v) := by
    intro m
    induction m with
    | zero => intro _; exact ⟨[], [], rfl, by simp, by simp, by simp, .nil, by simp⟩
    | succ m ih =>
     intro hm1
     obtain ⟨ys, vals, k1, k2, k3, k4, k5, k6⟩ := ih (by omega)
     obtain ⟨cs', g1, z, g2, g3⟩ := hz m (by omega)
     obtain ⟨y, hy, hok⟩ := he H enc W n cs' z g2 g3
     rw [add_eq] at g1
     obtain ⟨c1, c2⟩ := Rq g1
     refine ⟨ys ++ [y], vals ++ cs', by simp [k1], by simp [k2, c1, Nat.succ_mul], ?_, ?_, ?_, fun k v hk => ?_⟩
     ·intro x hx
      rcases List.mem_append.1 hx with hx | hx
      ·exact k3 x hx
      ·rw [List.mem_singleton.1 hx]; exact hok
     ·intro r hr
      rw [List.map_append] at hr
      rcases List.mem_append.1 hr with hr | hr
      ·exact k4 r hr
      ·rw [List.mem_singleton.1 hr, hy.length, c1]
     ·rw [List.map_append, List.flatten_append]
      simpa using k5.append hy
     ·by_cases hlt : k < vals.length
      ·rw [List.getElem?_append_left hlt] at hk
       exact k6 k v hk
      ·rw [List.getElem?_append_right (by omega)] at hk
       have := c2 _ v hk
       rw [<- this]
       congr 2
       omega
   obtain ⟨ys, vals, k1, k2, k3, k4, k5, k6⟩ := key len (Nat.le_refl _)
   have hb : b < W.heap.size := by
    obtain ⟨cs', g1, _⟩ := hz 0 h0
    have := World.cells?_block g1 hsz
    rw [add_eq] at this
    exact this
   have hbound : ys.length * bs <= 140737488351232 := by
    have h1 := hw _ (.inl rfl)
    have h2 : ys.length * bs <= (elems.length + rest.length) * bs := Nat.mul_le_mul_right _ (by omega)
    omega
   refine ⟨ys, .cons ?_ .nil, hbound, k3⟩
   rw [<- k1, <- List.length_map (f := en)]
   exact .sl hb k4 k5 k6 (by simp; omega)
def Ns (P : Program) (fs : List (Nat × TypeId)) (off : Nat) {α : Type} (e : α -> List C) (ok : α -> Prop) : Prop :=
 ∀ (H : Type) (enc : TypeId × Value -> H) (W : World) (fuel : Nat) (cs : List Value), (∀ f ∈ fs, ∃ x, DataW.trod enc P W 0 (fun _ => true) true fuel f.2 ((cs.drop f.1).take (P.cellsOf f.2)) = some x /\ ∀ n ∈ x.1.weights P f.2, n <= 140737488351232) ->
  cs.length = off + (fs.map fun f => P.cellsOf f.2).sum -> ∃ y : α, bG W (fun b => b < W.heap.size) (e y) (cs.drop off) /\ ok y
theorem cT {off : Nat} : Ns P [] off (fun _ : Unit => []) (fun _ => True) := fun H enc W fuel cs _ hl => by
 refine ⟨(), ?_, trivial⟩
 rw [List.drop_eq_nil_of_le (by simp at hl; omega)]
 exact .nil
theorem al {α β : Type} {ft : TypeId} {fs : List (Nat × TypeId)} {off sz : Nat} {en : α -> List C} {ok : α -> Prop} {en' : β -> List C} {ok' : β -> Prop} (h : fv P ft en ok) (hc : P.cellsOf ft = sz) (k : Ns P fs (off + sz) en' ok') :
  Ns P ((off, ft) :: fs) off (fun p : α × β => en p.1 ++ en' p.2) (fun p => ok p.1 /\ ok' p.2) := fun H enc W fuel cs hf hl => by
 obtain ⟨x, hx, hw⟩ := hf (off, ft) (by simp)
 obtain ⟨y, h1, h2⟩ := h H enc W fuel _ x hx hw
 obtain ⟨z, k1, k2⟩ := k H enc W fuel cs (fun f hm => hf f (by simp [hm])) (by simp at hl; rw [hc] at hl; omega)
 refine ⟨(y, z), ?_, h2, k2⟩
 have e : cs.drop off = (cs.drop off).take sz ++ cs.drop (off + sz) := by
  rw [<- List.drop_drop, List.take_append_drop]
 simp only [hc] at h1
 rw [e]
 exact h1.append k1
theorem bW {fields : Array Field} {α : Type} {e : α -> List C} {ok : α -> Prop} (ht : P.underlying t = some (.struct fields)) (h : Ns P (fields.toList.map fun f => (f.offset, f.type)) 0 e ok)
  (hs : P.cellsOf t = ((fields.toList.map fun f => (f.offset, f.type)).map fun f => P.cellsOf f.2).sum) : fv P t e ok := fun H enc W fuel cs x hx hw => by
 obtain ⟨xs, n, rfl, rfl, hl, hlen, hall⟩ := DataW.trod_struct ht hx
 have := h H enc W n cs (fun f hf => ?_) (by rw [hl, hs]; omega)
 ·simpa using this
 ·obtain ⟨fd, hfd, rfl⟩ := List.mem_map.1 hf
  obtain ⟨i, hi, he⟩ := List.getElem_of_mem hfd
  have hi' : i < fields.size := by simpa using hi
  have := hall i fd (by rw [Array.getElem?_eq_getElem hi']; simpa using he)
  rw [List.getElem?_eq_getElem (by omega)] at this
  refine ⟨_, this, fun m hm => hw m ?_⟩
  simp only [DataW.weights, ht]
  refine DataW.weights_mem_each (j := i) (t := fd.type) (d := (xs[i]'(by omega)).1) ?_ ?_ m hm
  ·rw [List.getElem?_map, List.getElem?_eq_getElem hi, he]
   rfl
  ·rw [List.getElem?_map, List.getElem?_eq_getElem (by omega)]
   rfl
end
end Go.Mv
namespace Go.Mv
open Go.RowKit
section
variable {α : Type}
def fill (en : α -> List C) (z : List C) (xs : List α) (k : Nat) : Rows := (xs.take k).map en ++ List.replicate (xs.length - k) z
end
theorem Iu {k : EK} {ks : List EK} {xs ys : List Value} {b : Bool} (h : Pq (k :: ks) xs ys = some b) : ∃ x xs' y ys' u v, xs = x :: xs' /\ ys = y :: ys' /\ eqV k x y = some u /\ Pq ks xs' ys' = some v /\ b = (u && v) := by
 cases xs with
 | nil => cases ys <;> cases h
 | cons x xs => cases ys with
  | nil => cases h
  | cons y ys =>
   simp only [Pq] at h
   split at h
   ·rename_i u v h1 h2; cases h; exact ⟨x, xs, y, ys, u, v, rfl, rfl, h1, h2, rfl⟩
   ·cases h
theorem WG {k : IntKind} {x y : Value} {u : Bool} (h : eqV (.int k) x y = some u) : ∃ a b, x = .int k a /\ y = .int k b /\ u = (a == b) := by
 cases x <;> first | (cases h; done) | skip
 cases y <;> first | (cases h; done) | skip
 simp only [eqV] at h
 split at h
 ·rename_i hc; obtain ⟨rfl, rfl⟩ := hc; cases h; exact ⟨_, _, rfl, rfl, rfl⟩
 ·cases h
theorem WH {x y : Value} {u : Bool} (h : eqV .str x y = some u) : ∃ a b, x = .string a /\ y = .string b /\ u = (a.toList == b.toList) := by
 cases x <;> first | (cases h; done) | skip
 cases y <;> first | (cases h; done) | skip
 simp only [eqV] at h
 cases h; exact ⟨_, _, rfl, rfl, rfl⟩
theorem bG.told {w : World} {S : Nat -> Prop} {γ : Path -> Option Loc} {cs : List C} {xs : List Value} (h : bG w S cs xs) : cK (au w S γ) (cs.map .c) xs := by
 refine ⟨by simpa using h.length, fun k t v ht hv => ?_⟩
 obtain ⟨c, hc, rfl⟩ := ax ht
 obtain ⟨x, h1, h2⟩ := h.get hc
 rw [hv] at h1
 cases h1
 exact h2
end Go.Mv
namespace Go.Mv
open Go.RowKit
section
variable {P : Program} {Ty : Types} {B : da} {S : Nat -> Prop} {γ : Path -> Option Loc} {st : St} {a : Act} {w : World} {Q : AQ} {ops : Array Oper}
def Vt (Ty : Types) (st : St) : Op -> Option (Prop × TV)
 | .binOp .add t x y _ => match Ty t with
  | none => none
  | some _ => match evT st x, evT st y with
   | .one (.c (.v (.string a))), .one (.c (.v (.string b))) => some (a.size + b.size <= 140737488355328, .one (.c (.v (.string (a ++ b)))))
   | _, _ => none
 | .index t x ix => match Ty t with
  | none => none
  | some i => match i.k with
   | .string => match TA (evT st x), KQ (evT st ix) with
    | some s, some n => some (0 <= n /\ n < s.size, .one (.c (.v (.int .u8 (bD s n)))))
    | _, _ => none
   | _ => none
 | .slice t x lo hi none => match Ty t with
  | none => none
  | some i => match i.k with
   | .string => match evT st x with
    | .one (.c (.v (.string s))) => match HP 0 (lo.map (evT st)), HP s.size (hi.map (evT st)) with
     | some l, some h => some (0 <= l /\ l <= h /\ h <= s.size, .one (.c (.v (.string (s.extract l.toNat h.toNat)))))
     | _, _ => none
    | _ => none
   | .slice e => match Ty e with
    | none => none
    | some ei => match evT st x with
     | .one (.c (.sl sz rows)) => match HP 0 (lo.map (evT st)), HP rows.length (hi.map (evT st)) with
      | some l, some h => some (0 <= l /\ l <= h /\ h <= rows.length /\ rows.all (fun r => r.length == ei.size) = true, .one (.c (.sl sz ((rows.take h.toNat).drop l.toNat))))
      | _, _ => none
     | _ => none
   | _ => none
 | .binOp .rem t x y _ => match Ty t with
  | none => none
  | some _ => match evT st x, evT st y with
   | .one (.c (.v (.int k a))), .one (.c (.v (.int k' b))) => if k = k' then some (b ≠ 0, .one (.c (.v (.int k (a.tmod b))))) else none
   | _, _ => none
 | .binOp .quo t x y _ => match Ty t with
  | none => none
  | some _ => match evT st x, evT st y with
   | .one (.c (.v (.int k a))), .one (.c (.v (.int k' b))) => if k = k' then some (b ≠ 0, .one (.c (.v (.int k (k.wrap (a.tdiv b)))))) else none
   | _, _ => none
 | _ => none
theorem Xs {op : Op} {c : Prop} {tv : TV} (h : Vt Ty st op = some (c, tv)) (hc : c) : dR Ty st op = some tv := by
 unfold Vt at h
 split at h
 ·rename_i t x y o
  split at h
  ·cases h
  rename_i i hi
  split at h
  ·rename_i a b ha hb
   cases h
   simp only [dR, hi, ha, hb, VI, TX, YM]
   rw [if_pos hc]
   rfl
  ·cases h
 ·rename_i t x ix
  split at h
  ·cases h
  rename_i i hi
  split at h
  ·rename_i hk
   split at h
   ·rename_i s n hs hn
    cases h
    simp only [dR, Cg, hi, hk, hs, hn]
    rw [if_pos hc]
   ·cases h
  ·cases h
 ·rename_i t x lo hi'
  split at h
  ·cases h
  rename_i i hi
  split at h
  ·rename_i hk
   split at h
   ·rename_i s hx
    split at h
    ·rename_i l hh hl hhh
     cases h
     simp only [dR, qx, hi, hk, hx, yJ, hl, hhh]
     rw [if_pos hc]
    ·cases h
   ·cases h
  ·rename_i e hk
   split at h
   ·cases h
   rename_i ei hei
   split at h
   ·rename_i sz rows hx
    split at h
    ·rename_i l hh hl hhh
     cases h
     simp only [dR, qx, hi, hk, hei, hx, yJ, hl, hhh]
     rw [if_pos hc]
    ·cases h
   ·cases h
  ·cases h
 ·rename_i t x y o
  split at h
  ·cases h
  rename_i i hi
  split at h
  ·rename_i k a k' b ha hb
   split at h
   ·rename_i hk
    subst hk
    cases h
    have e : XG .rem k a b = some (.int k (a.tmod b)) := if_neg hc
    simp only [dR, hi, ha, hb, VI, TX, Yt, e, if_true, Bool.false_eq_true, if_false]
    rfl
   ·cases h
  ·cases h
 ·rename_i t x y o
  split at h
  ·cases h
  rename_i i hi
  split at h
  ·rename_i k a k' b ha hb
   split at h
   ·rename_i hk
    subst hk
    cases h
    have e : XG .quo k a b = some (.int k (k.wrap (a.tdiv b))) := if_neg hc
    simp only [dR, hi, ha, hb, VI, TX, Yt, e, if_true, Bool.false_eq_true, if_false]
    rfl
   ·cases h
  ·cases h
 ·cases h
def UQ (Ty : Types) (ops : Array Oper) (st : St) (i : Nat) : Option (Nat × Prop × TV) :=
 match ops[i]? with
 | none => none
 | some o => match dm ops st o, o.dst with
  | some true, some d => (Vt Ty st o.op).map fun p => (d, p)
  | _, _ => none
theorem Ej {i d : Nat} {c : Prop} {tv : TV} (h : UQ Ty ops st i = some (d, c, tv)) (hc : c) :
  ∃ o, ops[i]? = some o /\ dm ops st o = some true /\ o.dst = some d /\ dR Ty st o.op = some tv := by
 unfold UQ at h
 split at h
 ·cases h
 rename_i o ho
 split at h
 ·rename_i d' hw hd
  cases hq : Vt Ty st o.op with
  | none => rw [hq] at h; cases h
  | some p =>
   rw [hq] at h
   cases h
   exact ⟨o, ho, hw, hd, Xs hq hc⟩
 ·cases h
section
variable {N : List Nat} {fuel : Nat} {listed : Array Bool}
end
def ij (Ty : Types) (ops : Array Oper) (st : St) (i : Nat) : Option (Nat × Option (Path × Nat × Nat) × Rows × Nat × Nat × TV × Nat) :=
 match ops[i]? with
 | none => none
 | some o => match dm ops st o, o.dst, o.op with
  | some true, some d, .call { callee := .builtin .append, args, argTypes } => match args.toList, argTypes.toList with
   | [s, x], [t, xt] => match Ty t with
    | none => none
    | some ti => match ti.k with
     | .slice e => match Ty e with
      | none => none
      | some ei => if tc Ty xt = true /\ 0 < ei.bytes /\ ei.zero.cells.size = ei.size then
        match evT st s with
        | .one (.so q i f n) => match ay st.m q with
         | none => none
         | some rs => match at2 rs i f with
          | some (.sl sz rows) => if sz = ei.size then some (d, some (q, i, f), rows, n, ei.bytes, evT st x, ei.size) else none
          | _ => none
        | .one (.c (.v (.slice none 0 0))) => some (d, none, [], 0, ei.bytes, evT st x, ei.size)
        | _ => none
       else none
     | _ => none
   | _, _ => none
  | _, _, _ => none
def sh (st : St) (d size : Nat) (src : Option (Path × Nat × Nat)) (rows' : Rows) : St :=
 match src with
 | none => { t := st.t.map (TV.bX (T1.forget [(d, 0)])), m := bz st.m d 0 (.sl size rows') }
 | some (q, i, f) => { t := (st.t.map (TV.bX (T1.forget (q ++ [(i, f)])))).map (TV.bX (T1.forget [(d, 0)])), m := bz (ju st.m q i f) d 0 (.sl size rows') }
def oe (st : St) (d : Nat) (src : Option (Path × Nat × Nat)) : Bool :=
 match src with
 | none => (at2 st.m d 0).isSome
 | some (q, i, f) => (at2 (ju st.m q i f) d 0).isSome
theorem og {np : Nat} {i d n n' bytes size : Nat} {src : Option (Path × Nat × Nat)} {rows new rows' : Rows} {tx : TV} (h : ij Ty ops st i = some (d, src, rows, n, bytes, tx, size)) (happ : dY st.m size tx = some (new, []))
  (hn : rows.length = n) (hb : (rows.length + new.length) * bytes <= 140737488355328) (hnp : (decide (np <= d) && oe st d src) = true) (hrows : rows ++ new = rows') (hn' : rows.length + new.length = n') :
  ∃ o, ops[i]? = some o /\ dm ops st o = some true /\ step Ty np st o = some (St.put (sh st d size src rows') (some d) (.one (.so [] d 0 n'))) := by
 unfold ij at h
 split at h
 ·cases h
 rename_i o ho
 split at h
 ·rename_i d' args argTypes hw hd hop
  split at h
  ·rename_i s x t xt hargs hts
   split at h
   ·cases h
   rename_i ti hti
   split at h
   ·rename_i e hk
    split at h
    ·cases h
    rename_i ei hei
    split at h
    ·rename_i hc
     simp only [Bool.and_eq_true, decide_eq_true_eq] at hnp
     split at h
     ·rename_i q i' f n0 hs
      split at h
      ·cases h
      rename_i rs hg
      split at h
      ·rename_i sz rows0 hat
       split at h
       ·rename_i hsz
        cases h
        subst hsz hrows hn'
        refine ⟨o, ho, hw, ?_⟩
        unfold step
        rw [hop]
        simp only [hargs, hts, hd, qw, hti, hk, hei, hs, KU, hg, hat, happ]
        rw [if_pos hn]
        simp only
        rw [if_pos ⟨hc.1, hc.2.1, hb, hnp.1, hc.2.2⟩]
        have hroom : (at2 (ju st.m q i' f) d 0).isSome = true := hnp.2
        rw [if_pos ⟨hroom, trivial⟩]
        simp only [List.map_nil, bo, Option.map_some, sh]
       ·cases h
      ·cases h
     ·rename_i hs
      cases h
      subst hrows hn'
      refine ⟨o, ho, hw, ?_⟩
      unfold step
      rw [hop]
      simp only [hargs, hts, hd, qw, hti, hk, hei, hs, KU, happ]
      rw [if_pos ⟨hc.1, hc.2.1, hb, hnp.1, hc.2.2⟩]
      have hroom : (at2 st.m d 0).isSome = true := hnp.2
      rw [if_pos hroom]
      simp only [List.map_nil, bo, Option.map_some, sh, List.nil_append, List.length_nil, Nat.zero_add]
     ·cases h
    ·cases h
   ·cases h
  ·cases h
 ·cases h
theorem DC {m : Rows} {size sz : Nat} {rows : Rows} (h : rows.all (fun r => r.length == size) = true) : dY m size (.one (.c (.sl sz rows))) = some (rows.map (List.map TY), []) := by
 simp [dY, oS, rowsOf, h]
def BO (np : Nat) (st : St) (d d' k : Nat) : Option St :=
 if np <= d /\ np <= d' /\ d ≠ d' then
  match st.t[k]?, at2 st.m d 0, at2 st.m d' 0 with
  | some (.one (.so [] d0 0 n)), some c, some _ => if d0 = d then
    some { t := ((st.t.map (TV.bX (T1.forget [(d, 0)]))).map (TV.bX (T1.forget [(d', 0)]))).set k (.one (.so [] d' 0 n)), m := bz (bz st.m d 0 .dead) d' 0 c }
   else none
  | _, _, _ => none
 else none
theorem Qq {d d' k : Nat} {st' : St} (hR : lz B st a w) (h : BO B.np st d d' k = some st') : lz B st' a w := by
 obtain ⟨S, γ, hR, hSn⟩ := hR
 unfold BO at h
 split at h
 ·rename_i hnp
  obtain ⟨hd1, hd2, hne⟩ := hnp
  split at h
  ·rename_i d0 n c c1 hk hc hc1
   split at h
   ·rename_i hdd
    subst hdd
    cases h
    obtain ⟨v, hv⟩ := hR.mem.head d0 0 c hc
    have hdet : Det w S c (fun s => γ ((d0, 0) :: s)) v := hR.mem.det (q := []) rfl hc hv
    have hkill : bf w S (bz st.m d0 0 .dead) (nd γ [] d0 0 fun _ => none) := hR.mem.kill (q := []) rfl hc
    have hc2 : at2 (bz st.m d0 0 .dead) d' 0 = some c1 := by rw [kI (by simp [hne])]; exact hc1
    have hR1 : Rel B S (nd γ [] d0 0 fun _ => none) { t := st.t.map (TV.bX (T1.forget [(d0, 0)])), m := bz st.m d0 0 .dead } a w :=
     hR.Oy (q := []) (x := .dead) (δ := fun _ => none) hkill rfl hc (fun _ _ => rfl) (Nat.le_refl _) hR.fr (fun s rs l hg => by simp [cS, C.rows] at hg) (fun _ _ hd => absurd rfl hd)
    have hap : pk (bz st.m d0 0 .dead) (nd γ [] d0 0 fun _ => none) c (fun s => γ ((d0, 0) :: s)) := fun p rs l s rs' l' hp hr hl hs hl' hb => by
     rcases @fm st.m st.m [] d0 0 .dead c rfl hc p rs hr with ⟨s2, _, hg2⟩ | ⟨hn, rs0, hg0, _⟩
     ·simp [cS, C.rows] at hg2
     ·rw [bu hn] at hl
      have := hR.mem.inj p ((d0, 0) :: s) rs0 rs' l l' hp (by simp) hg0 (by have := ca (q := []) (mem := st.m) rfl hc s; rw [List.nil_append] at this; rw [this]; exact hs) hl hl' hb
      exact hn (this ▸ ⟨s, by simp⟩)
    have hput := hkill.rD hdet hap hc2
    have hR2 := hR1.Oy (q := []) hput rfl hc2 (fun _ _ => rfl) (Nat.le_refl _) hR1.fr (fun s rs l hs hl => hR.own ((d0, 0) :: s) rs l (by simp) (by have := ca (q := []) (mem := st.m) rfl hc s; rw [List.nil_append] at this; rw [this]; exact hs) hl)
     (fun _ hlt => absurd hlt (by omega))
    refine ⟨S, _, ⟨hR2.sS, hR2.lt, hR2.mem, fun j t hj => ?_, by simpa using hR2.size, by simpa [bh] using hR2.msize, hR2.defers, hR2.own, hR2.fix, hR2.fr⟩, hSn⟩
    by_cases hjk : k = j
    ·subst hjk
     have hlt : k < st.t.length := (List.getElem?_eq_some_iff.1 hk).1
     simp only [List.getElem?_set_self (show k < (((st.t.map (TV.bX (T1.forget [(d0, 0)]))).map (TV.bX (T1.forget [(d', 0)])))).length by simpa using hlt), Option.some.injEq] at hj
     subst hj
     have h0 := hR.tv k _ hk
     have e : nd (nd γ [] d0 0 fun _ => none) [] d' 0 (fun s => γ ((d0, 0) :: s)) ([] ++ [(d', 0)]) = γ ([] ++ [(d0, 0)]) := by
      have := dM (nd γ [] d0 0 fun _ => none) [] d' 0 (fun s => γ ((d0, 0) :: s)) []
      simpa using this
     show au w S _ (.so [] d' 0 n) _
     have h1 : au w S γ (.so [] d0 0 n) (a.tmps.getD k undef) := h0
     simp only [au] at h1 ⊢
     rw [e]
     exact h1
    ·simp only [List.getElem?_set_ne hjk] at hj
     exact hR2.tv j t hj
   ·cases h
  ·cases h
 ·cases h
def MQ (Ty : Types) (ops : Array Oper) (st : St) (i : Nat) : Option (Nat × Rows × Nat) :=
 match ops[i]? with
 | none => none
 | some o => match dm ops st o, o.dst, o.op with
  | some true, some d, .convert src dst x => match Ty src, Ty dst with
   | some si, some di => match si.k, di.k with
    | .slice e, .string => if XK Ty e then match evT st x with
      | .one (.so q i f n) => (ay st.m (q ++ [(i, f)])).map fun rows => (d, rows, n)
      | .one (.c (.sl _ rows)) => some (d, rows, rows.length)
      | _ => none
     else none
    | _, _ => none
   | _, _ => none
  | _, _, _ => none
theorem JR (s : List UInt8) : yA (s.map fun b => [.v (.int .u8 b.toNat)]) = some (s.map fun b => (b.toNat : Int)) := by
 induction s with
 | nil => rfl
 | cons b s ih => simp only [List.map_cons, yA, ih, Option.map_some]
theorem qz (s : ByteArray) : strOfNums (s.data.toList.map fun b => (b.toNat : Int)) = s := by
 unfold strOfNums
 apply ByteArray.ext
 have : s.data.toList.map ((fun n : Int => UInt8.ofNat n.toNat) ∘ fun b : UInt8 => (b.toNat : Int)) = s.data.toList := by
  rw [List.map_congr_left (g := id) fun b _ => by simp, List.map_id]
 simp only [List.map_map, this, Array.toArray_toList]
theorem Rd {i d n : Nat} {rows : Rows} {s : ByteArray} {l : List Nat} {st1 : St} (ks : List Nat) (hTy : lT P Ty) (h : MQ Ty ops st i = some (d, rows, n)) (hn : rows.length = n) (hs : rows = bF s)
  (hst : (st.put (some d) (sV s)).ka ks = st1) (rest : yc P B ops l Q st1) : yc P B ops (i :: l) Q st := by
 unfold MQ at h
 split at h
 ·cases h
 rename_i o ho
 split at h
 ·rename_i d' src dst x hw hd hop
  split at h
  ·rename_i si di hsi hdi
   split at h
   ·rename_i e hk1 hk2
    split at h
    ·rename_i hu8
     have key : ∀ (b : Bool), rowsOf st.m (evT st x) = some (b, rows) -> yc P B ops (i :: l) Q st := fun b hr => by
      refine VF (o := o) (st' := st.put (some d') (sV s)) ks hTy ho hw ?_ (by
       have : d' = d := by
        split at h
        ·rename_i q i' f n0 hx
         cases hg : ay st.m (q ++ [(i', f)]) with
         | none => rw [hg] at h; cases h
         | some r => rw [hg] at h; cases h; rfl
        ·cases h; rfl
        ·cases h
       rw [this]; exact hst) rest
      unfold step
      rw [hop]
      simp only [dR, Hh, hsi, hdi, hk1, hk2, hd, Ce, hu8, if_true, hr, hs, bF, JR, Option.map_some, qz]
     split at h
     ·rename_i q i' f n0 hx
      cases hg : ay st.m (q ++ [(i', f)]) with
      | none => rw [hg] at h; cases h
      | some r =>
       rw [hg] at h
       simp only [Option.map_some, Option.some.injEq, Prod.mk.injEq] at h
       obtain ⟨_, rfl, rfl⟩ := h
       exact key false (by simp only [hx, rowsOf, hg]; rw [if_pos hn])
     ·rename_i sz r hx
      simp only [Option.some.injEq, Prod.mk.injEq] at h
      obtain ⟨_, rfl, rfl⟩ := h
      exact key true (by simp only [hx, rowsOf])
     ·cases h
    ·cases h
   ·cases h
  ·cases h
 ·cases h
def Imp (B : da) (s s1 : St) : Prop := ∀ a w, lz B s a w -> lz B s1 a w
def ZK (B : da) (st1 : St) : AQ
 | .normal, s => Imp B s st1
 | _, _ => False
theorem zi {s s1 : St} (h : s = s1) : Imp B s s1 := fun _ _ hR => h ▸ hR
theorem IU {s s1 s2 : St} (hF : ∀ b o, ¬ B.F b o) (q : Path) (i f k : Nat) (ks : List Nat) {n : Nat} {rs : Rows} (h : (uo B.np s q i f k).map (fun p => (p.1, p.2.1, p.2.2.ka ks)) = some (n, rs, s1)) (hn : rs.length = n)
  (r : Imp B s1 s2) : Imp B s s2 := fun a w hR => by
 cases hz : uo B.np s q i f k with
 | none => rw [hz] at h; cases h
 | some p =>
  obtain ⟨n2, rs2, st2⟩ := p
  rw [hz] at h
  simp only [Option.map_some, Option.some.injEq, Prod.mk.injEq] at h
  obtain ⟨rfl, rfl, rfl⟩ := h
  exact r a w (iU ks (IB hF hR hz hn))
theorem PG {s s1 s2 : St} (d d' k : Nat) (ks : List Nat) (h : (BO B.np s d d' k).map (St.ka ks) = some s1) (r : Imp B s1 s2) : Imp B s s2 := fun a w hR => by
 cases hr : BO B.np s d d' k with
 | none => rw [hr] at h; cases h
 | some st2 => rw [hr] at h; cases h; exact r a w (iU ks (Qq hR hr))
end
def sP (n : Int) : ByteArray := ⟨#[UInt8.ofNat n.toNat]⟩
theorem kj (n : Int) : (sP n).size = 1 := rfl
end Go.Mv
namespace Go.Mv
open Go.RowKit
def EqD (P : Program) (d : Nat) (t : TypeId) (ks : List EK) : Prop :=
 ∀ (w : World) (xs ys : List Value) (b : Bool), Pq ks xs ys = some b -> (Op.equalIn d t (.agg xs.toArray) (.agg ys.toArray)).run P w = .ok b w
def XD (P : Program) (d : Nat) (fs : List Field) (o : Nat) (ks : List EK) : Prop :=
 ∀ (w : World) (xs ys : List Value) (b : Bool), Pq ks (xs.drop o) (ys.drop o) = some b -> (Op.eqFields d xs.toArray ys.toArray fs).run P w = .ok b w
section
variable {P : Program} {d o : Nat} {f : Field} {fs : List Field} {ks ks1 : List EK} {t : TypeId}
theorem uj : XD P d [] o [] := fun w xs ys b h => by
 cases hx : xs.drop o with
 | cons x l => rw [hx] at h; cases ys.drop o <;> cases h
 | nil =>
  rw [hx] at h
  cases hy : ys.drop o with
  | cons y l => rw [hy] at h; cases h
  | nil => rw [hy] at h; cases h; rfl
theorem Ij {xs l : List Value} {x : Value} (h : xs.drop o = x :: l) : xs[o]? = some x /\ xs.drop (o + 1) = l := by
 refine ⟨?_, ?_⟩
 ·have := List.getElem?_drop (xs := xs) (i := o) (j := 0)
  rw [h] at this
  simpa using this.symm
 ·rw [<- List.drop_drop, h]
  rfl
theorem cU {k : EK} (hn : f.name ≠ "_") (ho : f.offset = o) (ha : ∀ w, (isAgg f.type).run P w = .ok false w) (hk : ∀ w a b u, eqV k a b = some u -> (Op.equalIn d f.type a b).run P w = .ok u w) (r : XD P d fs (o + 1) ks) : XD P d (f :: fs) o (k :: ks) := fun w xs ys b h => by
 obtain ⟨x, xs', y, ys', u, v, hx, hy, h1, h2, rfl⟩ := Iu h
 obtain ⟨gx, rx⟩ := Ij hx
 obtain ⟨gy, ry⟩ := Ij hy
 have hr := r w xs ys v (by rw [rx, ry]; exact h2)
 subst ho
 simp only [Op.eqFields, if_pos hn, Sem.run_bind, part, ha, Result.andThen_ok, Bool.false_eq_true, if_false, List.getElem?_toArray, gx, gy, Sem.run_pure, hk w x y u h1]
 cases u
 ·simp
 ·simpa using hr
theorem Ap : ∀ {ks1 ks : List EK} {xs ys : List Value} {b : Bool}, Pq (ks1 ++ ks) xs ys = some b ->
  ∃ u v, Pq ks1 (xs.take ks1.length) (ys.take ks1.length) = some u /\ Pq ks (xs.drop ks1.length) (ys.drop ks1.length) = some v /\ b = (u && v)
 | [], ks, xs, ys, b, h => ⟨true, b, rfl, h, by simp⟩
 | k :: ks1, ks, xs, ys, b, h => by
  obtain ⟨x, xs', y, ys', u, v, rfl, rfl, h1, h2, rfl⟩ := Iu (show Pq (k :: (ks1 ++ ks)) xs ys = some b from h)
  obtain ⟨u2, v2, g1, g2, rfl⟩ := Ap h2
  exact ⟨u && u2, v2, by simp only [List.length_cons, List.take_succ_cons, Pq, h1, g1], by simpa using g2, by rw [Bool.and_assoc]⟩
theorem Lj {n : Nat} (hn : f.name ≠ "_") (ho : f.offset = o) (ha : ∀ w, (isAgg f.type).run P w = .ok true w) (hs : ∀ w, (sizeOf f.type).run P w = .ok n w) (hl : ks1.length = n) (h1 : EqD P d f.type ks1) {ks' : List EK} (hk : ks1 ++ ks = ks') (r : XD P d fs (o + n) ks) :
  XD P d (f :: fs) o ks' := fun w xs ys b h => by
 subst hk
 obtain ⟨u, v, g1, g2, rfl⟩ := Ap h
 subst ho hl
 have hr := r w xs ys v (by rw [List.drop_drop, List.drop_drop] at g2; exact g2)
 have hx : ∀ l : List Value, l.toArray.extract f.offset (f.offset + ks1.length) = ((l.drop f.offset).take ks1.length).toArray := fun l => by
  simp [List.extract_toArray]
 have he := h1 w _ _ u g1
 simp only [Op.eqFields, if_pos hn, Sem.run_bind, part, ha, hs, Result.andThen_ok, if_true, Sem.run_pure, hx, he]
 cases u
 ·simp
 ·simpa using hr
theorem mS (ht : P.underlying t = some (.struct (P.fieldsOf t))) (hp : P.stoodInHeld t = false) (hfs : (P.fieldsOf t).toList = fs) (h : XD P d fs 0 ks) : EqD P (d + 1) t ks := fun w xs ys b hb => by
 rw [run_equalIn_struct w d t _ _ ht hp, hfs]
 exact h w xs ys b (by simpa using hb)
theorem Fp (hg : P.eqGuardType P.depth t = false) (h : EqD P 10000 t ks) : XE P t ks := ⟨hg, fun w xs ys b hb => h w xs ys b hb⟩
theorem Ao {k : IntKind} (h : P.underlying t = some (.int k)) (w : World) (a b : Value) (u : Bool) (hu : eqV (.int k) a b = some u) : (Op.equalIn (d + 1) t a b).run P w = .ok u w := by
 obtain ⟨x, y, rfl, rfl, rfl⟩ := WG hu
 exact run_equalIn_int w d t k k x y h
theorem pJ (h : P.underlying t = some .string) (w : World) (a b : Value) (u : Bool) (hu : eqV .str a b = some u) : (Op.equalIn (d + 1) t a b).run P w = .ok u w := by
 obtain ⟨x, y, rfl, rfl, rfl⟩ := WH hu
 exact run_equalIn_string w d t x y h
theorem Uv (h : P.underlying t = some .bool) (w : World) (a b : Value) (u : Bool) (hu : eqV .bool a b = some u) : (Op.equalIn (d + 1) t a b).run P w = .ok u w := by
 cases a <;> cases b <;> simp only [eqV] at hu <;> first | contradiction | skip
 cases hu
 exact run_equalIn_bool' w d t _ _ h
end
theorem JM {w : World} {S : Nat -> Prop} : bf w S [[]] (fun _ => none) := by
 have h : ∀ q rows, q ≠ [] -> ay [[]] q = some rows -> False := fun q rows hq hr => by
  cases q with
  | nil => exact hq rfl
  | cons x q =>
   obtain ⟨i, f⟩ := x
   simp only [ay, at2] at hr
   cases i <;> simp at hr
 exact ⟨fun q rows hq hr => (h q rows hq hr).elim, fun q rows l i f c hq hr => (h q rows hq hr).elim, fun i f c hc => by unfold at2 at hc; cases i <;> simp at hc, fun q q' rows rows' l l' hq hq' hr => (h q rows hq hr).elim⟩
theorem SX {w w' : World} {S : Nat -> Prop} {u : Value} (hS : ∀ b, S b -> b < w.heap.size) (hb : Below w.heap.size w w') (hp : plain u = true) : Ret w S w' (.one (.c (.v u))) [] u :=
 ⟨hb, S, fun _ => none, fun _ h => h, fun _ h => .inl h, fun b h => Nat.lt_of_lt_of_le (hS b h) hb.size, JM, .v hp, fun q rows l _ _ hl => by cases hl⟩
end Go.Mv
