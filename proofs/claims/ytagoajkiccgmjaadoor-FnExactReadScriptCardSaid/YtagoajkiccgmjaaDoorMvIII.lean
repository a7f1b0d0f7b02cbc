/- A walk over what is told is a walk of the program: calls, control, drawn regions, arguments opened; whatever the program and the state. -/
import Derived.Test.YtagoajkiccgmjaaDoorMvII
import Derived.OrdersHeld
import Derived.IntWalk
import Derived.WalkKit
import Derived.ChangeArms
import Derived.ChangeOld
import Derived.DataReads
import Derived.SizedLaws
import Derived.Lib.Join
import Derived.Laws.StructEq
set_option linter.unusedVariables false
set_option linter.unusedSimpArgs false
/- What is owned, lent: read as what is only read. -/
namespace Go.Mv
open Go.RowKit

section
variable {P : Program} {B : Base} {S : Nat → Prop} {γ : Path → Option Loc} {st : St} {a : Act} {w : World}

theorem flat_pos {sz : Nat} : ∀ {rows : Rows}, (∀ r ∈ rows, r.length = sz) → ∀ {k : Nat} {c : C}, rows.flatten[k]? = some c → ∃ i f, k = i * sz + f ∧ at2 rows i f = some c
  | [], _, k, c, h => by simp at h
  | r :: rows, hs, k, c, h => by
    have hr : r.length = sz := hs r (by simp)
    rw [List.flatten_cons] at h
    by_cases hk : k < r.length
    · rw [List.getElem?_append_left hk] at h
      exact ⟨0, k, by simp, by simpa [at2] using h⟩
    · rw [List.getElem?_append_right (by omega)] at h
      obtain ⟨i, f, h1, h2⟩ := flat_pos (fun r' h' => hs r' (by simp [h'])) h
      exact ⟨i + 1, f, by rw [Nat.succ_mul]; omega, by simpa [at2] using h2⟩

theorem RepFs.of_get {S' : Nat → Prop} : ∀ {cs : List C} {xs : List Value}, cs.length = xs.length → (∀ (k : Nat) (c : C) (x : Value), cs[k]? = some c → xs[k]? = some x → RepF w S' c x) → RepFs w S' cs xs
  | [], xs, hl, _ => by have := List.eq_nil_of_length_eq_zero hl.symm; subst this; exact .nil
  | c :: cs, [], hl, _ => by simp at hl
  | c :: cs, x :: xs, hl, h => .cons (h 0 c x rfl rfl) (RepFs.of_get (by simpa using hl) fun k c' x' hc hx => h (k + 1) c' x' (by simpa using hc) (by simpa using hx))

theorem at2_size {rows : Rows} {i f : Nat} {c : C} (h : at2 rows i f = some c) : SizeOf.sizeOf c < SizeOf.sizeOf rows := by
  unfold at2 at h
  cases hr : rows[i]? with
  | none => rw [hr] at h; cases h
  | some r =>
    rw [hr] at h
    have h1 := List.sizeOf_lt_of_mem (List.mem_of_getElem? hr)
    have h2 := List.sizeOf_lt_of_mem (List.mem_of_getElem? h)
    omega

theorem Det.sub {x c : C} {δ : Path → Option Loc} {v u : Value} {rows : Rows} {i f : Nat} (h : Det w S x δ v) (hx : x.rows = some rows) (hc : at2 rows i f = some c) (hu : Hdr w S c (δ [(i, f)]) u) :
    Det w S c (fun s => δ ((i, f) :: s)) u := by
  have hg : ∀ s, getX x ((i, f) :: s) = getX c s := fun s => by simp [getX, hx, getR, hc]
  refine ⟨hu, fun s rs hs => h.loc _ rs (by rw [hg]; exact hs), fun s rs l i' f' c' hs hl hc' => ?_, fun s s' rs rs' l l' hs hs' hl hl' hb => ?_⟩
  · obtain ⟨y, h1, h2⟩ := h.cell ((i, f) :: s) rs l i' f' c' (by rw [hg]; exact hs) hl hc'
    exact ⟨y, h1, h2⟩
  · have := h.inj _ _ rs rs' l l' (by rw [hg]; exact hs) (by rw [hg]; exact hs') hl hl' hb
    simpa using this

/-- What stands apart may be looked at as what is only read. -/
theorem Det.rep {S' : Nat → Prop} (hS : ∀ b, S b → S' b) (c : C) (δ : Path → Option Loc) (v : Value) (h : Det w S c δ v) (hO : ∀ s rows l, getX c s = some rows → δ s = some l → S' l.b) : RepF w S' c v := by
  cases c with
  | v u => obtain ⟨rfl, hp⟩ := h.hd; exact .v hp
  | fz c => exact .fz (RepF.frame hS (fun _ _ => rfl) h.hd)
  | fn f caps => exact RepF.frame hS (fun _ _ => rfl) h.hd
  | dead => exact .dead h.hd
  | sl sz rows =>
    have hd := h.hd
    cases hl : δ [] with
    | none => rw [hl] at hd; obtain ⟨rfl, rfl⟩ := hd; exact .nil
    | some l =>
      rw [hl] at hd
      obtain ⟨rfl, hcap, hsz⟩ := hd
      have hloc := h.loc [] rows rfl
      rw [hl] at hloc
      obtain ⟨_, _, hrow, _⟩ := hloc
      rw [hsz] at hrow
      have hcell : ∀ k c, rows.flatten[k]? = some c → ∃ u, w.cell? ⟨l.b, l.off + k, none⟩ = some u ∧ RepF w S' c u := by
        intro k c hk
        obtain ⟨i, f, rfl, hc⟩ := flat_pos hrow hk
        obtain ⟨u, h1, h2⟩ := h.cell [] rows l i f c rfl hl hc
        have hlt : SizeOf.sizeOf c < SizeOf.sizeOf (C.sl sz rows) := by have := at2_size hc; simp; omega
        refine ⟨u, by rw [← h1, hsz, Nat.add_assoc], Det.rep hS c (fun s => δ ((i, f) :: s)) u (h.sub rfl hc h2) fun s rs l' hg hl' => hO ((i, f) :: s) rs l' (by simpa [getX, C.rows, getR, hc] using hg) hl'⟩
      refine .sl (vals := (List.range rows.flatten.length).map fun k => (w.cell? ⟨l.b, l.off + k, none⟩).getD undef) (hO [] rows l rfl hl) hrow (RepFs.of_get (by simp) fun k c x hc hx => ?_) (fun k x hx => ?_) hcap
      · obtain ⟨u, h1, h2⟩ := hcell k c hc
        have hk := (List.getElem?_eq_some_iff.1 hc).1
        rw [List.getElem?_map, List.getElem?_range hk] at hx
        simp [h1] at hx
        subst hx
        exact h2
      · have hk : k < rows.flatten.length := by have := (List.getElem?_eq_some_iff.1 hx).1; simpa using this
        obtain ⟨u, h1, _⟩ := hcell k _ (List.getElem?_eq_getElem hk)
        rw [List.getElem?_map, List.getElem?_range hk] at hx
        simp [h1] at hx
        subst hx
        exact h1
  | bx row =>
    have hd := h.hd
    cases hl : δ [] with
    | none => rw [hl] at hd; exact hd.elim
    | some l =>
      rw [hl] at hd
      cases hd
      have hcell : ∀ (k : Nat) (c : C), row[k]? = some c → ∃ u, w.cell? ⟨l.b, l.off + k, none⟩ = some u ∧ RepF w S' c u := by
        intro k c hk
        have hc : at2 [row] 0 k = some c := by simpa [at2] using hk
        obtain ⟨u, h1, h2⟩ := h.cell [] [row] l 0 k c rfl hl hc
        have hlt : SizeOf.sizeOf c < SizeOf.sizeOf (C.bx row) := by have := List.sizeOf_lt_of_mem (List.mem_of_getElem? hk); simp; omega
        refine ⟨u, by simpa using h1, Det.rep hS c (fun s => δ ((0, k) :: s)) u (h.sub rfl hc h2) fun s rs l' hg hl' => hO ((0, k) :: s) rs l' (by simpa [getX, C.rows, getR, hc] using hg) hl'⟩
      refine .bx (vals := (List.range row.length).map fun k => (w.cell? ⟨l.b, l.off + k, none⟩).getD undef) (hO [] [row] l rfl hl) (RepFs.of_get (by simp) fun k c x hc hx => ?_) (fun k x hx => ?_)
      · obtain ⟨u, h1, h2⟩ := hcell k c hc
        have hk := (List.getElem?_eq_some_iff.1 hc).1
        rw [List.getElem?_map, List.getElem?_range hk] at hx
        simp [h1] at hx
        subst hx
        exact h2
      · have hk : k < row.length := by have := (List.getElem?_eq_some_iff.1 hx).1; simpa using this
        obtain ⟨u, h1, _⟩ := hcell k _ (List.getElem?_eq_getElem hk)
        rw [List.getElem?_map, List.getElem?_range hk] at hx
        simp [h1] at hx
        subst hx
        exact h1
  termination_by SizeOf.sizeOf c

end
end Go.Mv

/- What a call hands back, and what becomes of the caller. -/
namespace Go.Mv
open Go.RowKit

def rootIs (d : Nat) : Path → Bool
  | [] => false
  | (i, _) :: _ => i == d

def toRoot (d : Nat) : Path → Path
  | [] => []
  | (_, f) :: s => (d, f) :: s

/-- What leads below slot d is forgotten. -/
def T1.unroot (d : Nat) : T1 → T1
  | .pl p i f => if rootIs d p then .unk else .pl p i f
  | .so q i f n => if rootIs d (q ++ [(i, f)]) then .unk else .so q i f n
  | .sp p lo n => if rootIs d p then .unk else .sp p lo n
  | t => t

/-- What leads below slot 0 leads below slot d. -/
def T1.shift (d : Nat) : T1 → T1
  | .pl p i f => if rootIs 0 p then .pl (toRoot d p) i f else .unk
  | .so [] i f n => if i = 0 then .so [] d f n else .unk
  | .so (x :: q) i f n => if rootIs 0 (x :: q) then .so (toRoot d (x :: q)) i f n else .unk
  | .sp p lo n => if rootIs 0 p then .sp (toRoot d p) lo n else .unk
  | t => t

/-- What a call that began at w hands back at w': a value told by 'res', over cells 'row' of its own. -/
structure Ret (w : World) (S : Nat → Prop) (w' : World) (res : TV) (row : List C) (v : Value) : Prop where
  below : Below w.heap.size w w'
  ex : ∃ S' γ, (∀ b, S b → S' b) ∧ (∀ b, S' b → S b ∨ w.heap.size ≤ b) ∧ (∀ b, S' b → b < w'.heap.size) ∧ MemOK w' S' [row] γ ∧ TVVal w' S' γ res v ∧
    ∀ q rows l, q ≠ [] → getR [row] q = some rows → γ q = some l → w.heap.size ≤ l.b

/-- THE CONTRACT of a function: called with what 'args' tell it hands back what 'res' tells, over cells of its own; what was there is as it was. -/
def CallOK (P : Program) (f : FuncId) (args : List TV) (res : TV) (row : List C) : Prop :=
  ∀ (w : World) (S : Nat → Prop) (vals : List Value), (∀ b, S b → b < w.heap.size) → All2 (TVVal w S fun _ => none) args vals →
    Calls P f vals.toArray w fun e w' => ∃ v, e = .returned v ∧ Ret w S w' res row v

def padRow : List C → List C
  | [] => [.dead]
  | r => r

def St.callRet (st : St) (d : Nat) (res : TV) (row : List C) : St :=
  { t := (st.t.map (TV.map1 (T1.unroot d))).set d (res.map1 (T1.shift d)), m := st.m.set d (padRow row) }

def rootG (γ γr : Path → Option Loc) (d : Nat) : Path → Option Loc := fun p => if rootIs d p then γr (toRoot 0 p) else γ p

section
variable {P : Program} {B : Base} {S : Nat → Prop} {γ : Path → Option Loc} {st : St} {a : Act} {w : World}

theorem rootIs_append {d : Nat} {q s : Path} (h : q ≠ []) : rootIs d (q ++ s) = rootIs d q := by
  cases q with
  | nil => exact absurd rfl h
  | cons x q => rfl

theorem toRoot_append {d : Nat} {q s : Path} (h : q ≠ []) : toRoot d (q ++ s) = toRoot d q ++ s := by
  cases q with
  | nil => exact absurd rfl h
  | cons x q => rfl

theorem at2_set {m : Rows} {d : Nat} {row : List C} (hd : d < m.length) (i f : Nat) : at2 (m.set d row) i f = if i = d then row[f]? else at2 m i f := by
  unfold at2
  by_cases h : i = d
  · subst h; simp [hd]
  · rw [if_neg h, List.getElem?_set_ne (by omega)]

theorem getR_set {m : Rows} {d : Nat} {row : List C} (hd : d < m.length) {q : Path} (hq : q ≠ []) : getR (m.set d row) q = if rootIs d q then getR [row] (toRoot 0 q) else getR m q := by
  cases q with
  | nil => exact absurd rfl hq
  | cons x q =>
    obtain ⟨i, f⟩ := x
    simp only [getR, at2_set hd, rootIs, toRoot, beq_iff_eq]
    split
    · simp [at2]
    · rfl

theorem toRoot_inj {d : Nat} {q q' : Path} (h : rootIs d q = true) (h' : rootIs d q' = true) (e : toRoot 0 q = toRoot 0 q') : q = q' := by
  cases q with
  | nil => simp [rootIs] at h
  | cons x q =>
    cases q' with
    | nil => simp [rootIs] at h'
    | cons y q' =>
      obtain ⟨i, f⟩ := x
      obtain ⟨i', f'⟩ := y
      simp [rootIs] at h h'
      simp [toRoot] at e
      rw [h, h', e.1, e.2]

theorem toRoot_ne {d : Nat} {q : Path} (h : rootIs d q = true) : toRoot 0 q ≠ [] := by
  cases q with
  | nil => simp [rootIs] at h
  | cons x q => simp [toRoot]

/-- Cells of a call's own are laid into a slot. -/
theorem MemOK.setRow {mem : Rows} {row : List C} {γr : Path → Option Loc} {d : Nat} (h : MemOK w S mem γ) (hr : MemOK w S [row] γr) (hd : d < mem.length)
    (hap : ∀ q rows l q' rows' l', q ≠ [] → getR mem q = some rows → γ q = some l → q' ≠ [] → getR [row] q' = some rows' → γr q' = some l' → l.b ≠ l'.b) :
    MemOK w S (mem.set d row) (rootG γ γr d) := by
  refine ⟨fun q rows hq hg => ?_, fun q rows l i f c hq hg hl hc => ?_, fun i f c hc => ?_, fun q q' rows rows' l l' hq hq' hg hg' hl hl' hb => ?_⟩
  · rw [getR_set hd hq] at hg
    unfold rootG
    split at hg
    · rename_i h1; rw [if_pos h1]; exact hr.loc _ rows (toRoot_ne h1) hg
    · rename_i h1; rw [if_neg h1]; exact h.loc q rows hq hg
  · rw [getR_set hd hq] at hg
    unfold rootG at hl ⊢
    rw [rootIs_append hq, toRoot_append hq]
    split at hg
    · rename_i h1; rw [if_pos h1] at hl ⊢; exact hr.cell _ rows l i f c (toRoot_ne h1) hg hl hc
    · rename_i h1; rw [if_neg h1] at hl ⊢; exact h.cell q rows l i f c hq hg hl hc
  · rw [at2_set hd] at hc
    unfold rootG
    by_cases h1 : i = d
    · subst h1
      rw [if_pos rfl] at hc
      simp only [rootIs, beq_self_eq_true, if_true, toRoot]
      exact hr.head 0 f c (by simpa [at2] using hc)
    · rw [if_neg h1] at hc
      simp only [rootIs, beq_iff_eq, h1, if_false]
      exact h.head i f c hc
  · rw [getR_set hd hq] at hg
    rw [getR_set hd hq'] at hg'
    unfold rootG at hl hl'
    by_cases h1 : rootIs d q = true
    · rw [if_pos h1] at hg hl
      by_cases h2 : rootIs d q' = true
      · rw [if_pos h2] at hg' hl'
        exact toRoot_inj h1 h2 (hr.inj _ _ rows rows' l l' (toRoot_ne h1) (toRoot_ne h2) hg hg' hl hl' hb)
      · rw [if_neg h2] at hg' hl'
        exact absurd hb.symm (hap q' rows' l' _ rows l hq' hg' hl' (toRoot_ne h1) hg hl)
    · rw [if_neg h1] at hg hl
      by_cases h2 : rootIs d q' = true
      · rw [if_pos h2] at hg' hl'
        exact absurd hb (hap q rows l _ rows' l' hq hg hl (toRoot_ne h2) hg' hl')
      · rw [if_neg h2] at hg' hl'
        exact h.inj q q' rows rows' l l' hq hq' hg hg' hl hl' hb

theorem T1Val.unroot {γr : Path → Option Loc} {d : Nat} : ∀ {t : T1} {x : Value}, T1Val w S γ t x → T1Val w S (rootG γ γr d) (t.unroot d) x
  | .unk, _, _ => trivial
  | .c _, _, h => h
  | .fp _ _, _, h => h
  | .pl p i f, x, h => by
    show T1Val w S _ (if rootIs d p then T1.unk else T1.pl p i f) x
    split
    · trivial
    · rename_i h1
      obtain ⟨l, hl, hx⟩ := h
      exact ⟨l, by unfold rootG; rw [if_neg h1]; exact hl, hx⟩
  | .so q i f n, x, h => by
    show T1Val w S _ (if rootIs d (q ++ [(i, f)]) then T1.unk else T1.so q i f n) x
    split
    · trivial
    · rename_i h1
      have e : rootG γ γr d (q ++ [(i, f)]) = γ (q ++ [(i, f)]) := by unfold rootG; rw [if_neg h1]
      simp only [T1Val, e]
      exact h
  | .sp p lo n, x, h => by
    show T1Val w S _ (if rootIs d p then T1.unk else T1.sp p lo n) x
    split
    · trivial
    · rename_i h1
      have e : rootG γ γr d p = γ p := by unfold rootG; rw [if_neg h1]
      simp only [T1Val, e]
      exact h

theorem rootG_to {γr : Path → Option Loc} {d : Nat} {p : Path} (h : rootIs 0 p = true) : rootG γ γr d (toRoot d p) = γr p := by
  cases p with
  | nil => simp [rootIs] at h
  | cons x p =>
    obtain ⟨i, f⟩ := x
    simp [rootIs] at h
    subst h
    simp [rootG, rootIs, toRoot]

theorem T1Val.shift {γr : Path → Option Loc} {d : Nat} : ∀ {t : T1} {x : Value}, T1Val w S γr t x → T1Val w S (rootG γ γr d) (t.shift d) x
  | .unk, _, _ => trivial
  | .c _, _, h => h
  | .fp _ _, _, h => h
  | .pl p i f, x, h => by
    show T1Val w S _ (if rootIs 0 p then T1.pl (toRoot d p) i f else T1.unk) x
    split
    · rename_i h1
      simp only [T1Val, rootG_to h1]
      exact h
    · trivial
  | .so [] i f n, x, h => by
    show T1Val w S _ (if i = 0 then T1.so [] d f n else T1.unk) x
    split
    · rename_i h1
      subst h1
      have e : rootG γ γr d ([] ++ [(d, f)]) = γr ([] ++ [(0, f)]) := by simp [rootG, rootIs, toRoot]
      simp only [T1Val, e]
      exact h
    · trivial
  | .so (y :: q) i f n, x, h => by
    show T1Val w S _ (if rootIs 0 (y :: q) then T1.so (toRoot d (y :: q)) i f n else T1.unk) x
    split
    · rename_i h1
      have e : rootG γ γr d (toRoot d (y :: q) ++ [(i, f)]) = γr (y :: q ++ [(i, f)]) := by
        rw [← toRoot_append (by simp)]
        exact rootG_to (by rw [rootIs_append (by simp)]; exact h1)
      simp only [T1Val, e]
      exact h
    · trivial
  | .sp p lo n, x, h => by
    show T1Val w S _ (if rootIs 0 p then T1.sp (toRoot d p) lo n else T1.unk) x
    split
    · rename_i h1
      simp only [T1Val, rootG_to h1]
      exact h
    · trivial

theorem Frame.below {w' : World} (h : Frame B w) (hb : Below w.heap.size w w') : Frame B w' := by
  refine ⟨hb.os.trans h.os, hb.tape.trans h.tape, hb.output.trans h.output, Nat.le_trans h.size hb.size, fun b hlt hF => ?_, fun b cells e z hh => ?_⟩
  · rw [hb.block b (Nat.lt_of_lt_of_le hlt h.size)]; exact h.all b hlt hF
  · obtain ⟨cells', h1, h2⟩ := h.cells b cells e z hh
    exact ⟨cells', by rw [hb.block b (lt_of_heap h1)]; exact h1, h2⟩

theorem pad_getR {row : List C} {q : Path} {rows : Rows} (hq : q ≠ []) (h : getR [padRow row] q = some rows) : row ≠ [] ∧ getR [row] q = some rows := by
  cases row with
  | cons c row => exact ⟨by simp, h⟩
  | nil =>
    exfalso
    cases q with
    | nil => exact hq rfl
    | cons x q =>
      obtain ⟨i, f⟩ := x
      cases i with
      | succ i => simp [getR, at2, padRow] at h
      | zero =>
        cases f with
        | succ f => simp [getR, at2, padRow] at h
        | zero => simp [getR, at2, padRow, C.rows] at h

theorem MemOK.pad {row : List C} (h : MemOK w S [row] γ) : MemOK w S [padRow row] γ := by
  refine ⟨fun q rows hq hr => h.loc q rows hq (pad_getR hq hr).2, fun q rows l i f c hq hr => h.cell q rows l i f c hq (pad_getR hq hr).2, fun i f c hc => ?_,
    fun q q' rows rows' l l' hq hq' hr hr' => h.inj q q' rows rows' l l' hq hq' (pad_getR hq hr).2 (pad_getR hq' hr').2⟩
  cases row with
  | cons c row => exact h.head i f _ hc
  | nil =>
    cases i with
    | succ i => simp [at2, padRow] at hc
    | zero =>
      cases f with
      | succ f => simp [at2, padRow] at hc
      | zero =>
        simp [at2, padRow] at hc
        subst hc
        exact ⟨.bool true, rfl⟩

/-- THE CALLER, behind a call. -/
theorem Rel.call {w' : World} {res : TV} {row : List C} {v : Value} {d : Nat} (hR : Rel B S γ st a w) (hSn : ∀ b, S b → B.S b ∨ B.w.heap.size ≤ b) (h : Ret w S w' res row v) (hnp : B.np ≤ d)
    (hd : d < st.m.length) : RelE B (st.callRet d res row) (a.put (some d) v) w' := by
  obtain ⟨hb, S', γr, hS1, hS2, hS3, hm, hv, hnew⟩ := h
  have hSw : ∀ b, S b → w'.heap[b]? = w.heap[b]? := fun b hs => hb.block b (hR.lt b hs)
  have hlt : ∀ q rows l, q ≠ [] → getR st.m q = some rows → γ q = some l → l.b < w.heap.size := fun q rows l hq hr hl => by
    have := hR.mem.loc q rows hq hr
    rw [hl] at this
    obtain ⟨_, _, _, cells, e, lo, hi, h4, _⟩ := this
    exact lt_of_heap h4
  have hold : MemOK w' S' st.m γ := hR.mem.frame hS1 hSw fun q rows l hq hr hl => by
    refine ⟨hb.block _ (hlt q rows l hq hr hl), fun hs => ?_⟩
    rcases hS2 _ hs with h1 | h1
    · have := hR.mem.loc q rows hq hr
      rw [hl] at this
      exact this.1 h1
    · have := hlt q rows l hq hr hl
      omega
  have hmem := hold.setRow hm.pad hd fun q rows l q' rows' l' hq hr hl hq' hr' hl' he => by
    have h1 := hlt q rows l hq hr hl
    have h2 := hnew q' rows' l' hq' (pad_getR hq' hr').2 hl'
    omega
  refine ⟨S', rootG γ γr d, ⟨fun b hs => hS1 b (hR.sS b hs), hS3, hmem, fun k t hk => ?_, by simp [St.callRet, Act.put, hR.size], by simp [St.callRet, hR.msize], hR.defers, fun q rows l hq hr hl => ?_, fun i f c hi hc hrows => ?_, hR.fr.below hb⟩, fun b hs => ?_⟩
  · simp only [St.callRet, Act.put] at hk ⊢
    by_cases hkd : d = k
    · subst hkd
      have hlen : d < (st.t.map (TV.map1 (T1.unroot d))).length := by have := (List.getElem?_eq_some_iff.1 hk).1; simpa using this
      rw [List.getElem?_set_self hlen] at hk
      cases hk
      have : d < a.tmps.size := by rw [← hR.size]; simpa using hlen
      simp only [Array.getD_eq_getD_getElem?, Array.getElem?_setIfInBounds_self_of_lt this, Option.getD_some]
      exact TVVal.map1 (fun _ _ ht => T1Val.shift ht) hv
    · rw [List.getElem?_set_ne hkd] at hk
      obtain ⟨t0, ht0, rfl⟩ := getElem?_map_some hk
      have := hR.tv k t0 ht0
      simp only [Array.getD_eq_getD_getElem?] at this ⊢
      rw [Array.getElem?_setIfInBounds_ne hkd]
      exact TVVal.map1 (fun _ _ ht => T1Val.unroot (T1Val.frame hS1 hSw ht)) this
  · simp only [St.callRet] at hr
    rw [getR_set hd hq] at hr
    unfold rootG at hl
    split at hr
    · rename_i h1
      rw [if_pos h1] at hl
      exact .inl (Nat.le_trans hR.fr.size (hnew _ rows l (toRoot_ne h1) (pad_getR (toRoot_ne h1) hr).2 hl))
    · rename_i h1
      rw [if_neg h1] at hl
      exact hR.own q rows l hq hr hl
  · simp only [St.callRet] at hc
    have hid : i ≠ d := by omega
    rw [at2_set hd, if_neg hid] at hc
    have e : rootG γ γr d [(i, f)] = γ [(i, f)] := by simp [rootG, rootIs, hid]
    rw [e]
    exact hR.fix i f c hi hc hrows
  · rcases hS2 b hs with h1 | h1
    · exact hSn b h1
    · exact .inr (Nat.le_trans hR.fr.size h1)

end
end Go.Mv

/- The walk over what is told: entry, return, and the rules of control. -/
namespace Go.Mv
open Go.RowKit

def baseOf (w : World) (S : Nat → Prop) : Base := ⟨w, S, fun _ _ => False, 0, fun _ => none⟩

def enterT (args : List TV) (n : Nat) : List TV := args ++ List.replicate (n - args.length) (.one .unk)

def enterSt (args : List TV) (n : Nat) : St := { t := enterT args n, m := List.replicate (args.length + (n - args.length)) [.dead] }

theorem getR_dead {n : Nat} {q : Path} {rows : Rows} (hq : q ≠ []) (h : getR (List.replicate n [C.dead]) q = some rows) : False := by
  cases q with
  | nil => exact hq rfl
  | cons x q =>
    obtain ⟨i, f⟩ := x
    simp only [getR] at h
    cases hc : at2 (List.replicate n [C.dead]) i f with
    | none => rw [hc] at h; cases h
    | some c =>
      have : c = .dead := by
        unfold at2 at hc
        rw [List.getElem?_replicate] at hc
        split at hc
        · simp only [Option.bind_some] at hc
          have := List.mem_of_getElem? hc
          simpa using this
        · cases hc
      subst this
      rw [hc] at h
      simp [C.rows] at h

theorem enter_rel {w : World} {S : Nat → Prop} {args : List TV} {vals : List Value} {n : Nat} (hS : ∀ b, S b → b < w.heap.size) (h : All2 (TVVal w S fun _ => none) args vals) :
    RelE (baseOf w S) (enterSt args n) { tmps := vals.toArray ++ Array.replicate (n - vals.toArray.size) undef, defers := [] } w := by
  refine ⟨S, fun _ => none, ⟨fun _ hb => hb, hS, ⟨fun q rows hq hr => (getR_dead hq hr).elim, fun q rows l i f c hq hr => (getR_dead hq hr).elim, fun i f c hc => ?_, fun q q' rows rows' l l' hq hq' hr => (getR_dead hq hr).elim⟩,
    fun k t hk => ?_, ?_, ?_, rfl, fun q rows l hq hr => (getR_dead hq hr).elim, fun i f c hi => by simp [baseOf] at hi, Frame.refl _⟩, fun b hb => .inl hb⟩
  · have : c = .dead := by
      unfold at2 at hc
      simp only [enterSt, List.getElem?_replicate] at hc
      split at hc
      · simp only [Option.bind_some] at hc
        have := List.mem_of_getElem? hc
        simpa using this
      · cases hc
    subst this
    exact ⟨.bool true, rfl⟩
  · simp only [enterSt, enterT] at hk
    simp only [Array.getD_eq_getD_getElem?, Array.getElem?_append, List.size_toArray, List.getElem?_toArray]
    by_cases hlt : k < args.length
    · rw [List.getElem?_append_left hlt] at hk
      obtain ⟨b, h1, h2⟩ := h.get hk
      rw [if_pos (by rw [← h.1]; exact hlt), h1]
      exact h2
    · rw [List.getElem?_append_right (by omega), List.getElem?_replicate] at hk
      split at hk
      · cases hk; trivial
      · cases hk
  · simp [enterSt, enterT, h.1]
  · simp [enterSt, enterT]

/-! ### Return -/
/-- One cell of a result: what leads to a tree of one's own hands that tree out. -/
def outT (m : Rows) (row : List C) (ps : List Path) : T1 → Option (T1 × List C × List Path)
  | .so q i f n => match getR m q with
    | none => none
    | some rows => match at2 rows i f with
      | some (.sl sz rs) => if rs.length = n then some (.so [] 0 row.length n, row ++ [.sl sz rs], ps ++ [q ++ [(i, f)]]) else none
      | _ => none
  | .pl p 0 0 => match p.getLast? with
    | none => none
    | some (i, f) => match getR m p.dropLast with
      | none => none
      | some rows => match at2 rows i f with
        | some (.bx r) => some (.pl [(0, row.length)] 0 0, row ++ [.bx r], ps ++ [p])
        | _ => none
  | .pl _ _ _ => none
  | .sp _ _ _ => none
  | t => some (t, row, ps)

def outTs (m : Rows) (row : List C) (ps : List Path) : List T1 → Option (List T1 × List C × List Path)
  | [] => some ([], row, ps)
  | t :: ts => match outT m row ps t with
    | none => none
    | some (t', row', ps') => match outTs m row' ps' ts with
      | none => none
      | some (ts', row'', ps'') => some (t' :: ts', row'', ps'')

def outT2 (m : Rows) (row : List C) (ps : List Path) : T2 → Option (T2 × List C × List Path)
  | .one t => match outT m row ps t with
    | none => none
    | some (t', r) => some (.one t', r)
  | .agg l => match outTs m row ps l with
    | none => none
    | some (l', r) => some (.agg l', r)

def outT2s (m : Rows) (row : List C) (ps : List Path) : List T2 → Option (List T2 × List C × List Path)
  | [] => some ([], row, ps)
  | t :: ts => match outT2 m row ps t with
    | none => none
    | some (t', row', ps') => match outT2s m row' ps' ts with
      | none => none
      | some (ts', row'', ps'') => some (t' :: ts', row'', ps'')

def outV (m : Rows) : TV → Option (TV × List C × List Path)
  | .one t => match outT m [] [] t with
    | none => none
    | some (t', r) => some (.one t', r)
  | .agg l => match outTs m [] [] l with
    | none => none
    | some (l', r) => some (.agg l', r)
  | .tup l => match outT2s m [] [] l with
    | none => none
    | some (l', r) => some (.tup l', r)

def apartPs : List Path → Bool
  | [] => true
  | p :: ps => ps.all (fun p' => !mayPre p p' && !mayPre p' p) && apartPs ps

section
variable {P : Program} {B : Base} {S : Nat → Prop} {γ : Path → Option Loc} {st : St} {a : Act} {w : World}

/-- The trees that stand at ps are what row holds. -/
def Handed (m : Rows) (row : List C) (ps : List Path) : Prop :=
  row.length = ps.length ∧ ∀ (j : Nat) (c : C) (p : Path), row[j]? = some c → ps[j]? = some p → ∃ q i f rows, p = q ++ [(i, f)] ∧ getR m q = some rows ∧ at2 rows i f = some c

def handG (γ : Path → Option Loc) (ps : List Path) : Path → Option Loc
  | (0, j) :: s => (ps[j]?).bind fun p => γ (p ++ s)
  | _ => none

theorem Handed.snoc {m : Rows} {row : List C} {ps : List Path} (h : Handed m row ps) {q : Path} {i f : Nat} {rows : Rows} {c : C} (hq : getR m q = some rows) (hc : at2 rows i f = some c) :
    Handed m (row ++ [c]) (ps ++ [q ++ [(i, f)]]) := by
  refine ⟨by simp [h.1], fun j c' p hj hp => ?_⟩
  by_cases hlt : j < row.length
  · rw [List.getElem?_append_left hlt] at hj
    rw [List.getElem?_append_left (by rw [← h.1]; exact hlt)] at hp
    exact h.2 j c' p hj hp
  · have he : j = row.length := by
      have := (List.getElem?_eq_some_iff.1 hj).1
      simp at this
      omega
    subst he
    rw [List.getElem?_append_right (Nat.le_refl _)] at hj
    rw [h.1, List.getElem?_append_right (Nat.le_refl _)] at hp
    simp at hj hp
    subst hj
    subst hp
    exact ⟨q, i, f, rows, rfl, hq, hc⟩

theorem outT_val {m : Rows} {row row' : List C} {ps ps' : List Path} {t t' : T1} {x : Value} (hm : MemOK w S m γ) (hH : Handed m row ps) (h : outT m row ps t = some (t', row', ps')) (hv : T1Val w S γ t x) :
    Handed m row' ps' ∧ ps <+: ps' ∧ ∀ ps'', ps' <+: ps'' → T1Val w S (handG γ ps'') t' x := by
  have key : ∀ (p : Path) (ps'' : List Path), ps ++ [p] <+: ps'' → handG γ ps'' [(0, row.length)] = γ p := by
    rintro p _ ⟨r, rfl⟩
    simp only [handG]
    rw [hH.1, List.append_assoc, List.getElem?_append_right (Nat.le_refl _)]
    simp
  cases t with
  | unk => cases h; exact ⟨hH, List.prefix_refl _, fun _ _ => trivial⟩
  | c c => cases h; exact ⟨hH, List.prefix_refl _, fun _ _ => hv⟩
  | fp r f => cases h; exact ⟨hH, List.prefix_refl _, fun _ _ => hv⟩
  | sp p lo n => cases h
  | so q i f n =>
    simp only [outT] at h
    split at h
    · cases h
    · rename_i rows hq
      split at h
      · rename_i sz rs hc
        split at h
        · rename_i hn
          cases h
          refine ⟨hH.snoc hq hc, ⟨_, rfl⟩, fun ps'' hp => ?_⟩
          simp only [T1Val, List.nil_append, key _ ps'' hp]
          exact hv
        · cases h
      · cases h
  | pl p i f =>
    cases i with
    | succ i => cases h
    | zero =>
      cases f with
      | succ f => cases h
      | zero =>
        simp only [outT] at h
        split at h
        · cases h
        · rename_i i f hl
          split at h
          · cases h
          · rename_i rows hq
            split at h
            · rename_i r hc
              cases h
              have hp : p = p.dropLast ++ [(i, f)] := by
                have hne : p ≠ [] := fun e => by subst e; cases hl
                have e := List.dropLast_concat_getLast hne
                rw [List.getLast?_eq_some_getLast hne] at hl
                simp only [Option.some.injEq] at hl
                rw [hl] at e
                exact e.symm
              refine ⟨by have := hH.snoc hq hc; rw [← hp] at this; exact this, ⟨_, rfl⟩, fun ps'' hpp => ?_⟩
              obtain ⟨l, h1, h2⟩ := hv
              exact ⟨l, by rw [key _ ps'' hpp]; exact h1, h2⟩
            · cases h

theorem outTs_val {m : Rows} (hm : MemOK w S m γ) : ∀ {ts ts' : List T1} {row row' : List C} {ps ps' : List Path} {xs : List Value}, Handed m row ps → outTs m row ps ts = some (ts', row', ps') →
    All2 (T1Val w S γ) ts xs → Handed m row' ps' ∧ ps <+: ps' ∧ ∀ ps'', ps' <+: ps'' → All2 (T1Val w S (handG γ ps'')) ts' xs
  | [], ts', row, row', ps, ps', xs, hH, h, hv => by
    cases h
    have := List.eq_nil_of_length_eq_zero hv.1.symm
    subst this
    exact ⟨hH, List.prefix_refl _, fun _ _ => .nil⟩
  | t :: ts, ts', row, row', ps, ps', xs, hH, h, hv => by
    obtain ⟨x, xs, rfl, h1, h2⟩ := hv.uncons
    simp only [outTs] at h
    split at h
    · cases h
    · rename_i t1 row1 ps1 ho
      split at h
      · cases h
      · rename_i ts2 row2 ps2 hos
        cases h
        obtain ⟨a1, a2, a3⟩ := outT_val hm hH ho h1
        obtain ⟨b1, b2, b3⟩ := outTs_val hm a1 hos h2
        exact ⟨b1, a2.trans b2, fun ps'' hp => .cons (a3 ps'' (b2.trans hp)) (b3 ps'' hp)⟩

theorem outT2_val {m : Rows} {row row' : List C} {ps ps' : List Path} {t t' : T2} {x : Value} (hm : MemOK w S m γ) (hH : Handed m row ps) (h : outT2 m row ps t = some (t', row', ps')) (hv : T2Val w S γ t x) :
    Handed m row' ps' ∧ ps <+: ps' ∧ ∀ ps'', ps' <+: ps'' → T2Val w S (handG γ ps'') t' x := by
  cases t with
  | one t =>
    simp only [outT2] at h
    split at h
    · cases h
    · rename_i t1 r ho; cases h; exact outT_val hm hH ho hv
  | agg l =>
    simp only [outT2] at h
    split at h
    · cases h
    · rename_i l1 r ho
      cases h
      obtain ⟨xs, hx, hl⟩ := hv
      obtain ⟨a1, a2, a3⟩ := outTs_val hm hH ho hl
      exact ⟨a1, a2, fun ps'' hp => ⟨xs, hx, a3 ps'' hp⟩⟩

theorem outT2s_val {m : Rows} (hm : MemOK w S m γ) : ∀ {ts ts' : List T2} {row row' : List C} {ps ps' : List Path} {xs : List Value}, Handed m row ps → outT2s m row ps ts = some (ts', row', ps') →
    All2 (T2Val w S γ) ts xs → Handed m row' ps' ∧ ps <+: ps' ∧ ∀ ps'', ps' <+: ps'' → All2 (T2Val w S (handG γ ps'')) ts' xs
  | [], ts', row, row', ps, ps', xs, hH, h, hv => by
    cases h
    have := List.eq_nil_of_length_eq_zero hv.1.symm
    subst this
    exact ⟨hH, List.prefix_refl _, fun _ _ => .nil⟩
  | t :: ts, ts', row, row', ps, ps', xs, hH, h, hv => by
    obtain ⟨x, xs, rfl, h1, h2⟩ := hv.uncons
    simp only [outT2s] at h
    split at h
    · cases h
    · rename_i t1 row1 ps1 ho
      split at h
      · cases h
      · rename_i ts2 row2 ps2 hos
        cases h
        obtain ⟨a1, a2, a3⟩ := outT2_val hm hH ho h1
        obtain ⟨b1, b2, b3⟩ := outT2s_val hm a1 hos h2
        exact ⟨b1, a2.trans b2, fun ps'' hp => .cons (a3 ps'' (b2.trans hp)) (b3 ps'' hp)⟩

theorem handed_nil (m : Rows) : Handed m [] [] := ⟨rfl, fun j c p hj => by simp at hj⟩

theorem outV_val {m : Rows} {row : List C} {ps : List Path} {t t' : TV} {x : Value} (hm : MemOK w S m γ) (h : outV m t = some (t', row, ps)) (hv : TVVal w S γ t x) :
    Handed m row ps ∧ TVVal w S (handG γ ps) t' x := by
  cases t with
  | one t =>
    simp only [outV] at h
    split at h
    · cases h
    · rename_i t1 r ho
      cases h
      obtain ⟨a1, _, a3⟩ := outT_val hm (handed_nil m) ho hv
      exact ⟨a1, a3 _ (List.prefix_refl _)⟩
  | agg l =>
    simp only [outV] at h
    split at h
    · cases h
    · rename_i l1 r ho
      cases h
      obtain ⟨xs, hx, hl⟩ := hv
      obtain ⟨a1, _, a3⟩ := outTs_val hm (handed_nil m) ho hl
      exact ⟨a1, xs, hx, a3 _ (List.prefix_refl _)⟩
  | tup l =>
    simp only [outV] at h
    split at h
    · cases h
    · rename_i l1 r ho
      cases h
      obtain ⟨xs, hx, hl⟩ := hv
      obtain ⟨a1, _, a3⟩ := outT2s_val hm (handed_nil m) ho hl
      exact ⟨a1, xs, hx, a3 _ (List.prefix_refl _)⟩

theorem apartPs_spec : ∀ {ps : List Path}, apartPs ps = true → ∀ (j j' : Nat) (p p' : Path), ps[j]? = some p → ps[j']? = some p' → p <+: p' → j = j'
  | [], _, j, j', p, p', h, _, _ => by simp at h
  | x :: ps, h, j, j', p, p', hj, hj', hp => by
    simp only [apartPs, Bool.and_eq_true, List.all_eq_true, Bool.not_eq_true'] at h
    cases j with
    | zero =>
      simp at hj
      subst hj
      cases j' with
      | zero => rfl
      | succ j' =>
        simp at hj'
        have := (h.1 p' (List.mem_of_getElem? hj')).1
        rw [mayPre_of hp] at this
        cases this
    | succ j =>
      simp at hj
      cases j' with
      | zero =>
        simp at hj'
        subst hj'
        have := (h.1 p (List.mem_of_getElem? hj)).2
        rw [mayPre_of hp] at this
        cases this
      | succ j' =>
        simp at hj'
        rw [apartPs_spec h.2 j j' p p' hj hj' hp]

theorem getR_handed {m : Rows} {row : List C} {ps : List Path} (hH : Handed m row ps) {q : Path} {rows : Rows} (hq : q ≠ []) (h : getR [row] q = some rows) :
    ∃ j s p, q = (0, j) :: s ∧ ps[j]? = some p ∧ p ≠ [] ∧ getR m (p ++ s) = some rows := by
  cases q with
  | nil => exact absurd rfl hq
  | cons x s =>
    obtain ⟨i, j⟩ := x
    simp only [getR] at h
    cases hc : at2 [row] i j with
    | none => rw [hc] at h; cases h
    | some c =>
      have hi : i = 0 := by
        cases i with
        | zero => rfl
        | succ i => simp [at2] at hc
      subst hi
      have hrow : row[j]? = some c := by simpa [at2] using hc
      have hj : j < ps.length := by rw [← hH.1]; exact (List.getElem?_eq_some_iff.1 hrow).1
      obtain ⟨q', i', f', rows', he, hq', hc'⟩ := hH.2 j c _ hrow (List.getElem?_eq_getElem hj)
      refine ⟨j, s, ps[j], rfl, List.getElem?_eq_getElem hj, by rw [he]; simp, ?_⟩
      rw [he, List.append_assoc, List.singleton_append, getX_of hq' hc']
      rw [hc] at h
      exact h

/-- The trees that are handed out, by themselves. -/
theorem MemOK.hand {m : Rows} {row : List C} {ps : List Path} (h : MemOK w S m γ) (hH : Handed m row ps) (hap : apartPs ps = true) : MemOK w S [row] (handG γ ps) := by
  have hg : ∀ j s p, ps[j]? = some p → handG γ ps ((0, j) :: s) = γ (p ++ s) := fun j s p hp => by simp [handG, hp]
  refine ⟨fun q rows hq hr => ?_, fun q rows l i f c hq hr hl hc => ?_, fun i f c hc => ?_, fun q q' rows rows' l l' hq hq' hr hr' hl hl' hb => ?_⟩
  · obtain ⟨j, s, p, rfl, hp, hne, hr⟩ := getR_handed hH hq hr
    rw [hg j s p hp]
    exact h.loc _ rows (by simp [hne]) hr
  · obtain ⟨j, s, p, rfl, hp, hne, hr⟩ := getR_handed hH hq hr
    rw [hg j s p hp] at hl
    obtain ⟨x, h1, h2⟩ := h.cell _ rows l i f c (by simp [hne]) hr hl hc
    refine ⟨x, h1, ?_⟩
    rw [List.cons_append, hg j _ p hp, ← List.append_assoc]
    exact h2
  · have hi : i = 0 := by
      cases i with
      | zero => rfl
      | succ i => simp [at2] at hc
    subst hi
    have hrow : row[f]? = some c := by simpa [at2] using hc
    have hj : f < ps.length := by rw [← hH.1]; exact (List.getElem?_eq_some_iff.1 hrow).1
    obtain ⟨q', i', f', rows', he, hq', hc'⟩ := hH.2 f c _ hrow (List.getElem?_eq_getElem hj)
    obtain ⟨y, hy⟩ := h.someHdr hq' hc'
    refine ⟨y, ?_⟩
    rw [hg f [] _ (List.getElem?_eq_getElem hj), he, List.append_nil]
    exact hy
  · obtain ⟨j, s, p, rfl, hp, hne, hr⟩ := getR_handed hH hq hr
    obtain ⟨j', s', p', rfl, hp', hne', hr'⟩ := getR_handed hH hq' hr'
    rw [hg j s p hp] at hl
    rw [hg j' s' p' hp'] at hl'
    have he := h.inj _ _ rows rows' l l' (by simp [hne]) (by simp [hne']) hr hr' hl hl' hb
    have hpre : p <+: p' ∨ p' <+: p := List.prefix_or_prefix_of_prefix (List.prefix_append p s) (he ▸ List.prefix_append p' s')
    have hjj : j = j' := by
      rcases hpre with h1 | h1
      · exact apartPs_spec hap j j' p p' hp hp' h1
      · exact (apartPs_spec hap j' j p' p hp' hp h1).symm
    subst hjj
    rw [hp] at hp'
    cases hp'
    rw [List.append_cancel_left he]

/-- What a function hands back at its end. -/
theorem ret_of_rel {w0 : World} {S0 : Nat → Prop} {t res : TV} {row : List C} {ps : List Path} {v : Value} (hR : RelE (baseOf w0 S0) st a w) (hv : ∀ (S : Nat → Prop) γ, Rel (baseOf w0 S0) S γ st a w → TVVal w S γ t v)
    (h : outV st.m t = some (res, row, ps)) (hap : apartPs ps = true) : Ret w0 S0 w res row v := by
  obtain ⟨S, γ, hR, hSn⟩ := hR
  obtain ⟨hH, hval⟩ := outV_val hR.mem h (hv S γ hR)
  refine ⟨⟨hR.fr.os, hR.fr.tape, hR.fr.output, hR.fr.size, fun k hk => hR.fr.all k hk fun o => id⟩, S, handG γ ps, hR.sS, hSn, hR.lt, hR.mem.hand hH hap, hval, fun q rows l hq hr hl => ?_⟩
  obtain ⟨j, s, p, rfl, hp, hne, hr⟩ := getR_handed hH hq hr
  have hl' : γ (p ++ s) = some l := by simpa [handG, hp] using hl
  rcases hR.own _ rows l (by simp [hne]) hr hl' with h1 | ⟨⟨o, ho⟩, _⟩
  · exact h1
  · exact ho.elim

end
end Go.Mv

/- The walk over what is told: the rules. -/
namespace Go.Mv
open Go.RowKit

abbrev AQ := Exit → St → Prop

def liftQ (B : Base) (Q : AQ) : Exit → Act → World → Prop
  | .panic _, _, _ => False
  | .outgrown, _, _ => False
  | e, a, w => ∃ st, Q e st ∧ RelE B st a w

/-- From whatever is told by st the code comes to an end that Q tells. -/
def AWp (P : Program) (B : Base) (c : Code) (Q : AQ) (st : St) : Prop := ∀ a w, RelE B st a w → c.wp P (liftQ B Q) a w

def AOps (P : Program) (B : Base) (ops : Array Oper) (l : List Nat) (Q : AQ) (st : St) : Prop := ∀ a w, RelE B st a w → wpOps P ops (liftQ B Q) l a w

def thenA (next : St → Prop) (Q : AQ) : AQ
  | .normal, st => next st
  | e, st => Q e st

def blockA (id : Nat) (Q : AQ) : AQ
  | .exit id', st => cond (Nat.beq id' id) (Q .normal st) (Q (.exit id') st)
  | e, st => Q e st

section
variable {P : Program} {B : Base} {S : Nat → Prop} {γ : Path → Option Loc} {st : St} {a : Act} {w : World} {Q : AQ}

theorem a_skip (h : Q .normal st) : AWp P B .skip Q st := fun _ _ hR => wp_skip ⟨st, h, hR⟩
theorem a_ret (h : Q .ret st) : AWp P B .ret Q st := fun _ _ hR => wp_ret ⟨st, h, hR⟩
theorem a_exit {id : Nat} (h : Q (.exit id) st) : AWp P B (.exit id) Q st := fun _ _ hR => wp_exit ⟨st, h, hR⟩

theorem a_seq {x y : Code} (h : AWp P B x (thenA (fun st' => AWp P B y Q st') Q) st) : AWp P B (.seq x y) Q st := fun a w hR =>
  wp_seq (wp_mono (h a w hR) fun e a' w' hq => by
    cases e with
    | normal => obtain ⟨st', h1, h2⟩ := hq; exact h1 a' w' h2
    | panic c => exact hq
    | outgrown => exact hq
    | exit id => exact hq
    | goto l => exact hq
    | ret => exact hq)

theorem a_block {id : Nat} {c : Code} (h : AWp P B c (blockA id Q) st) : AWp P B (.block id c) Q st := fun a w hR =>
  wp_block (wp_mono (h a w hR) fun e a' w' hq => by
    cases e with
    | exit id' =>
      obtain ⟨st', h1, h2⟩ := hq
      simp only [blockA] at h1
      simp only [Exit.inBlock]
      split
      · rename_i he; subst he; rw [Nat.beq_refl] at h1; exact ⟨st', h1, h2⟩
      · rename_i he
        have hb : Nat.beq id' id = false := by
          cases hb : Nat.beq id' id with
          | false => rfl
          | true => exact absurd (Nat.eq_of_beq_eq_true hb) he
        rw [hb] at h1
        exact ⟨st', h1, h2⟩
    | normal => exact hq
    | panic c => exact hq
    | outgrown => exact hq
    | goto l => exact hq
    | ret => exact hq)

theorem one_val {B : Base} {S : Nat → Prop} {γ : Path → Option Loc} (hR : Rel B S γ st a w) {x : Operand} {u : Value} (h : evT st x = .one (.c (.v u))) : a.eval x = u := by
  have := hR.evT x
  rw [h] at this
  exact one_v this

theorem a_cond {c : Operand} {x y : Code} {b : Bool} (hc : evT st c = .one (.c (.v (.bool b)))) (ht : b = true → AWp P B x Q st) (hf : b = false → AWp P B y Q st) : AWp P B (.cond c x y) Q st := fun a w hR => by
  obtain ⟨S, γ, hR', hS⟩ := hR
  exact wp_cond_split (one_val hR' hc) (fun e => ht e a w ⟨S, γ, hR', hS⟩) fun e => hf e a w ⟨S, γ, hR', hS⟩

theorem least_of {p : Nat → Prop} (h : ∃ n, p n) : ∃ n, p n ∧ ∀ m, p m → n ≤ m := by
  obtain ⟨n, hn⟩ := h
  induction n using Nat.strongRecOn with
  | _ n ih =>
    by_cases h : ∃ m, m < n ∧ p m
    · obtain ⟨m, h1, h2⟩ := h; exact ih m h1 h2
    · exact ⟨n, hn, fun m hm => Nat.le_of_not_lt fun hlt => h ⟨m, hlt, hm⟩⟩

/-- A loop: what is told at its head is one of the I's; a round brings the measure down. -/
theorem a_loop {ι : Type} {c : Code} (I : ι → St) (μ : ι → Nat) (i0 : ι) (h0 : st = I i0) (round : ∀ i, AWp P B c (thenA (fun st' => ∃ j, st' = I j ∧ μ j < μ i) Q) (I i)) : AWp P B (.loop c) Q st := fun a w hR => by
  classical
  let M : Act → World → Nat → Prop := fun a w n => ∃ i, RelE B (I i) a w ∧ μ i = n
  let ν : Act → World → Nat := fun a w => if h : ∃ n, M a w n then Classical.choose (least_of h) else 0
  refine wp_loop (fun a w => ∃ n, M a w n) ν ⟨μ i0, i0, h0 ▸ hR, rfl⟩ fun a w hI => ?_
  have hν : ν a w = Classical.choose (least_of hI) := by simp only [ν]; rw [dif_pos hI]
  obtain ⟨i, hi, hμ⟩ := (Classical.choose_spec (least_of hI)).1
  refine wp_mono (round i a w hi) fun e a' w' hq => ?_
  cases e with
  | normal =>
    obtain ⟨st', ⟨j, rfl, hlt⟩, h2⟩ := hq
    have hI' : ∃ n, M a' w' n := ⟨μ j, j, h2, rfl⟩
    refine ⟨hI', ?_⟩
    have : ν a' w' = Classical.choose (least_of hI') := by simp only [ν]; rw [dif_pos hI']
    rw [this, hν]
    have h3 := (Classical.choose_spec (least_of hI')).2 (μ j) ⟨j, h2, rfl⟩
    omega
  | panic c => exact hq
  | outgrown => exact hq
  | exit id => exact hq
  | goto l => exact hq
  | ret => exact hq

/-! ### Operations in a row -/
theorem a_region {id : Nat} {ops : Array Oper} (h : AOps P B ops (List.range ops.size) Q st) : AWp P B (.region id ops false) Q st := fun a w hR => wp_region (h a w hR)

/-- A region of operations that call nobody. -/
theorem ao_nil {ops : Array Oper} (h : Q .normal st) : AOps P B ops [] Q st := fun _ _ hR => ⟨st, h, hR⟩

/-- Is the operation wanted? -/
def wantT (ops : Array Oper) (st : St) (o : Oper) : Option Bool :=
  match o.guard with
  | none => some true
  | some (j, b) => match (ops[j]?).bind (·.dst) with
    | none => none
    | some k => match st.t[k]? with
      | some (.one (.c (.v (.bool c)))) => some (c == b)
      | some (.tup []) => some false
      | _ => none

theorem wantT_ok (hR : Rel B S γ st a w) {ops : Array Oper} {o : Oper} {b : Bool} (h : wantT ops st o = some b) : Region.wanted o (yielded ops a.tmps) = b := by
  unfold wantT at h
  unfold Region.wanted
  split at h
  · rename_i hg; cases h; rw [hg]
  · rename_i j b' hg
    rw [hg]
    split at h
    · cases h
    · rename_i k hk
      split at h
      · rename_i c ht
        cases h
        have := one_v (hR.tv k _ ht)
        have hlt : k < a.tmps.size := by rw [← hR.size]; exact (List.getElem?_eq_some_iff.1 ht).1
        have h2 : a.tmps[k]? = some (.bool c) := by
          rw [Array.getD_eq_getD_getElem?, Array.getElem?_eq_getElem hlt] at this
          rw [Array.getElem?_eq_getElem hlt]
          simpa using this
        simp only [yielded, hk, Option.bind_some, h2]
        cases c <;> cases b' <;> rfl
      · rename_i ht
        cases h
        obtain ⟨xs, hx, hl⟩ := hR.tv k _ ht
        have := List.eq_nil_of_length_eq_zero hl.1.symm
        subst this
        have hlt : k < a.tmps.size := by rw [← hR.size]; exact (List.getElem?_eq_some_iff.1 ht).1
        have h2 : a.tmps[k]? = some (.tuple #[]) := by
          rw [Array.getD_eq_getD_getElem?, Array.getElem?_eq_getElem hlt] at hx
          rw [Array.getElem?_eq_getElem hlt]
          simpa using hx
        simp only [yielded, hk, Option.bind_some, h2]
        cases b' <;> rfl
      · cases h

/-- What stands in the slot of an operation that was not wanted. -/
theorem undef_val (w : World) (S : Nat → Prop) (γ : Path → Option Loc) : TVVal w S γ (.tup []) undef := ⟨[], rfl, .nil⟩

/-- A run of operations that call nobody. -/
def runOps (Ty : Types) (np : Nat) (ops : Array Oper) : List Nat → St → Option St
  | [], st => some st
  | i :: rest, st => match ops[i]? with
    | none => runOps Ty np ops rest st
    | some o => match wantT ops st o with
      | some true => match step Ty np st o with
        | some st' => runOps Ty np ops rest st'
        | none => none
      | some false => runOps Ty np ops rest (st.put o.dst (.tup []))
      | none => none

theorem ao_run {Ty : Types} (hTy : TyOK P Ty) {ops : Array Oper} {l2 : List Nat} : ∀ (l1 : List Nat) {st st1 : St}, runOps Ty B.np ops l1 st = some st1 → AOps P B ops l2 Q st1 → AOps P B ops (l1 ++ l2) Q st
  | [], st, st1, h, k => by cases h; exact k
  | i :: l1, st, st1, h, k => fun a w hR => by
    simp only [runOps] at h
    show wpOps P ops (liftQ B Q) (i :: (l1 ++ l2)) a w
    unfold wpOps
    split at h
    · rename_i ho
      rw [ho]
      exact ao_run hTy l1 h k a w hR
    · rename_i o ho
      rw [ho]
      obtain ⟨S, γ, hR', hS⟩ := hR
      split at h
      · rename_i hw
        show if Region.wanted o (yielded ops a.tmps) = true then _ else _
        rw [if_pos (wantT_ok hR' hw)]
        split at h
        · rename_i st' hs
          obtain ⟨nx, v, w', h1, h2, h3⟩ := step_run (P := P) hTy ⟨S, γ, hR', hS⟩ hs
          refine .inl ?_
          unfold Oper.wp
          rw [h1]
          rcases h2 with rfl | ⟨rfl, rfl⟩
          · exact ao_run hTy l1 h k _ _ h3
          · exact ao_run hTy l1 h k _ _ h3
        · cases h
      · rename_i hw
        show if Region.wanted o (yielded ops a.tmps) = true then _ else _
        rw [if_neg (by rw [wantT_ok hR' hw]; simp)]
        exact ao_run hTy l1 h k _ _ ⟨S, γ, hR'.put (undef_val _ _ _) o.dst, hS⟩
      · cases h

/-- The slots below which a cell's value leads. -/
def T1.roots : T1 → List Nat
  | .pl ((i, _) :: _) _ _ => [i]
  | .so [] i _ _ => [i]
  | .so ((i, _) :: _) _ _ _ => [i]
  | .sp ((i, _) :: _) _ _ => [i]
  | _ => []

def St.live (ks : List Nat) (st : St) : List Nat := ks.flatMap fun k => match st.t[k]? with
  | some t => t.cells.flatMap T1.roots
  | none => []

/-- What is told may be told less: slots that are not kept, and trees that nothing kept leads to. -/
def St.keep (ks : List Nat) (st : St) : St :=
  { t := st.t.mapIdx fun k t => if ks.contains k then t else .one .unk, m := st.m.mapIdx fun k r => if (st.live ks).contains k then r else [.dead] }

theorem MemOK.less {m m' : Rows} (h : MemOK w S m γ) (hm : ∀ i f c, at2 m' i f = some c → at2 m i f = some c ∨ c = .dead) : MemOK w S m' γ := by
  have key : ∀ q rows, q ≠ [] → getR m' q = some rows → getR m q = some rows := by
    intro q rows hq hr
    cases q with
    | nil => exact absurd rfl hq
    | cons x q =>
      obtain ⟨i, f⟩ := x
      simp only [getR] at hr ⊢
      cases hc : at2 m' i f with
      | none => rw [hc] at hr; cases hr
      | some c =>
        rw [hc] at hr
        rcases hm i f c hc with h1 | rfl
        · rw [h1]; exact hr
        · cases hr
  refine ⟨fun q rows hq hr => h.loc q rows hq (key q rows hq hr), fun q rows l i f c hq hr => h.cell q rows l i f c hq (key q rows hq hr), fun i f c hc => ?_,
    fun q q' rows rows' l l' hq hq' hr hr' => h.inj q q' rows rows' l l' hq hq' (key q rows hq hr) (key q' rows' hq' hr')⟩
  rcases hm i f c hc with h1 | rfl
  · exact h.head i f c h1
  · exact ⟨.bool true, rfl⟩

theorem keep_at2 (ks : List Nat) (i f : Nat) (c : C) (h : at2 (st.keep ks).m i f = some c) : at2 st.m i f = some c ∨ c = .dead := by
  unfold at2 at h ⊢
  simp only [St.keep, List.getElem?_mapIdx] at h
  cases hr : st.m[i]? with
  | none => rw [hr] at h; cases h
  | some r =>
    rw [hr] at h
    simp only [Option.map_some, Option.bind_some] at h
    split at h
    · exact .inl h
    · have := List.mem_of_getElem? h
      exact .inr (by simpa using this)

theorem keep_rel (ks : List Nat) (h : RelE B st a w) : RelE B (st.keep ks) a w := by
  obtain ⟨S, γ, hR, hS⟩ := h
  have hkey : ∀ q rows, q ≠ [] → getR (st.keep ks).m q = some rows → getR st.m q = some rows := by
    intro q rows hq hr
    cases q with
    | nil => exact absurd rfl hq
    | cons x q =>
      obtain ⟨i, f⟩ := x
      simp only [getR] at hr ⊢
      cases hc : at2 (st.keep ks).m i f with
      | none => rw [hc] at hr; cases hr
      | some c =>
        rw [hc] at hr
        rcases keep_at2 ks i f c hc with h1 | rfl
        · rw [h1]; exact hr
        · cases hr
  refine ⟨S, γ, ⟨hR.sS, hR.lt, hR.mem.less (keep_at2 ks), fun k t hk => ?_, by simp [St.keep, hR.size], by simp [St.keep, hR.msize], hR.defers, fun q rows l hq hr => hR.own q rows l hq (hkey q rows hq hr), fun i f c hi hc hrows => ?_, hR.fr⟩, hS⟩
  · simp only [St.keep, List.getElem?_mapIdx] at hk
    cases ht : st.t[k]? with
    | none => rw [ht] at hk; cases hk
    | some t0 =>
      rw [ht] at hk
      simp only [Option.map_some, Option.some.injEq] at hk
      split at hk
      · subst hk; exact hR.tv k t0 ht
      · subst hk; trivial
  · rcases keep_at2 ks i f c hc with h1 | rfl
    · exact hR.fix i f c hi h1 hrows
    · exact absurd rfl hrows

theorem ao_keep (ks : List Nat) {ops : Array Oper} {l : List Nat} (h : AOps P B ops l Q (st.keep ks)) : AOps P B ops l Q st := fun a w hR => h a w (keep_rel ks hR)
/-! ### Calls -/
def EnterOK (P : Program) (f : FuncId) : Prop := ∀ (args : Array Value) (w : World), (callFunc f args).run P w = .ok (.enter f args) w

theorem run_call {f : FuncId} {args : Array Operand} {argTypes : Array TypeId} {o : Oper} (hop : o.op = .call { callee := .value (.func f), args, argTypes }) (hE : EnterOK P f) :
    (execOp a.eval o).run P w = .ok (.enter f (args.map a.eval)) w := by
  simp [execOp, hop, resolve, Deferred.ofValue, Act.eval, invoke, hE _ w]

def closed1 : T1 → Bool
  | .unk => true
  | .c _ => true
  | .fp _ _ => true
  | _ => false

def closedV : TV → Bool
  | .one t => closed1 t
  | .agg l => l.all closed1
  | .tup _ => false

theorem closed1_val {γ' : Path → Option Loc} {t : T1} {x : Value} (h : closed1 t = true) (hv : T1Val w S γ t x) : T1Val w S γ' t x := by
  cases t <;> first | exact hv | cases h

theorem closedV_val {γ' : Path → Option Loc} {t : TV} {x : Value} (h : closedV t = true) (hv : TVVal w S γ t x) : TVVal w S γ' t x := by
  cases t with
  | one t => exact closed1_val h hv
  | agg l =>
    obtain ⟨xs, hx, hl⟩ := hv
    simp only [closedV, List.all_eq_true] at h
    exact ⟨xs, hx, hl.imp fun t x ht hv => closed1_val (h t ht) hv⟩
  | tup l => cases h

end
end Go.Mv

/- A function as a whole: its results, and its contract from a walk. -/
namespace Go.Mv
open Go.RowKit

def resOne (Ty : Types) (st : St) : ResultVar → Option TV
  | .tmp t => some (evT st (.tmp t))
  | .cell a t => stepLoad Ty st t (.tmp a)

def resT (Ty : Types) (st : St) : List ResultVar → Option (List TV)
  | [] => some []
  | r :: rs => match resOne Ty st r, resT Ty st rs with
    | some t, some ts => some (t :: ts)
    | _, _ => none

def t2Of : TV → Option T2
  | .one t => some (.one t)
  | .agg l => some (.agg l)
  | .tup _ => none

def t2sOf : List TV → Option (List T2)
  | [] => some []
  | t :: ts => match t2Of t, t2sOf ts with
    | some x, some xs => some (x :: xs)
    | _, _ => none

def tupOf : List TV → Option TV
  | [t] => some t
  | ts => (t2sOf ts).map .tup

/-- What a function's end tells: the result, and the cells that it hands out. -/
def endT (Ty : Types) (st : St) (rs : List ResultVar) : Option (TV × List C) :=
  match resT Ty st rs with
  | none => none
  | some ts => match tupOf ts with
    | none => none
    | some t => match outV st.m t with
      | none => none
      | some (res, row, ps) => if apartPs ps then some (res, row) else none

def endQ (Ty : Types) (rs : List ResultVar) (res : TV) (row : List C) : AQ
  | .normal, st => endT Ty st rs = some (res, row)
  | .ret, st => endT Ty st rs = some (res, row)
  | _, _ => False

section
variable {P : Program} {Ty : Types} {B : Base} {S : Nat → Prop} {γ : Path → Option Loc} {st : St} {a : Act} {w : World}

theorem stepLoad_run (hTy : TyOK P Ty) (hR : Rel B S γ st a w) {t : TypeId} {x : Operand} {tv : TV} (h : stepLoad Ty st t x = some tv) :
    ∃ ad v, (asAddr (a.eval x)).run P w = .ok ad w ∧ (loadVar t ad).run P w = .ok v w ∧ TVVal w S γ tv v := by
  unfold stepLoad at h
  split at h
  · cases h
  · rename_i i hi
    split at h
    · rename_i p hp
      have hpv := hR.evT x
      rw [hp] at hpv
      cases hl : loadP st.m i.size p with
      | none => rw [hl] at h; cases h
      | some l =>
        rw [hl] at h
        obtain ⟨b, o', vals, hx, hlen, hc, hall⟩ := loadP_vals hR hpv hl
        have hi' := hTy _ _ hi
        refine ⟨⟨b, o', none⟩, ?_⟩
        cases hagg : i.k.agg with
        | true =>
          have := run_loadVar (P := P) hi' hlen hc (.inl hagg)
          rw [hagg] at h this
          cases h
          exact ⟨_, by simp [hx, asAddr], this, vals, rfl, hall⟩
        | false =>
          rw [hagg] at h
          simp only [Option.bind_some, asTV, Bool.false_eq_true, if_false] at h
          split at h
          · rename_i t1
            cases h
            have h1 : i.size = 1 := by rw [← hlen, ← hall.1]; rfl
            have := run_loadVar (P := P) hi' hlen hc (.inr h1)
            obtain ⟨v, vs, rfl, hv, hvs⟩ := hall.uncons
            rw [hagg] at this
            exact ⟨v, by simp [hx, asAddr], by simpa using this, hv⟩
          · cases h
    · cases h

def resRun (tmps : Array Value) : ResultVar → Sem Value
  | .tmp t => pure (tmps.getD t undef)
  | .cell a t => do loadVar t (← asAddr (tmps.getD a undef))

theorem resOne_run (hTy : TyOK P Ty) (hR : Rel B S γ st a w) {r : ResultVar} {tv : TV} (h : resOne Ty st r = some tv) : ∃ v, (resRun a.tmps r).run P w = .ok v w ∧ TVVal w S γ tv v := by
  cases r with
  | tmp t => cases h; exact ⟨a.tmps.getD t undef, rfl, hR.evT (.tmp t)⟩
  | cell x t =>
    obtain ⟨ad, v, h1, h2, h3⟩ := stepLoad_run hTy hR (x := .tmp x) h
    refine ⟨v, ?_, h3⟩
    have h1' : (asAddr (a.tmps.getD x undef)).run P w = .ok ad w := h1
    simp only [resRun, Sem.run_bind, h1', Result.andThen_ok, h2]

theorem resT_run (hTy : TyOK P Ty) (hR : Rel B S γ st a w) : ∀ {rs : List ResultVar} {ts : List TV}, resT Ty st rs = some ts → ∃ vs, (rs.mapM (resRun a.tmps)).run P w = .ok vs w ∧ All2 (TVVal w S γ) ts vs
  | [], ts, h => by cases h; exact ⟨[], by simp, .nil⟩
  | r :: rs, ts, h => by
    simp only [resT] at h
    split at h
    · rename_i t ts' h1 h2
      cases h
      obtain ⟨v, g1, g2⟩ := resOne_run hTy hR h1
      obtain ⟨vs, k1, k2⟩ := resT_run hTy hR h2
      exact ⟨v :: vs, by simp [List.mapM_cons, g1, k1], .cons g2 k2⟩
    · cases h

theorem t2sOf_val : ∀ {ts : List TV} {xs : List T2} {vs : List Value}, t2sOf ts = some xs → All2 (TVVal w S γ) ts vs → All2 (T2Val w S γ) xs vs
  | [], xs, vs, h, hv => by
    cases h
    have := List.eq_nil_of_length_eq_zero hv.1.symm
    subst this
    exact .nil
  | t :: ts, xs, vs, h, hv => by
    obtain ⟨v, vs, rfl, h1, h2⟩ := hv.uncons
    simp only [t2sOf] at h
    split at h
    · rename_i x xs' g1 g2
      cases h
      refine .cons ?_ (t2sOf_val g2 h2)
      cases t with
      | one t => cases g1; exact h1
      | agg l => cases g1; exact h1
      | tup l => cases g1
    · cases h

theorem results_run (hTy : TyOK P Ty) (hR : Rel B S γ st a w) {fn : Func} {ts : List TV} {t : TV} (h : resT Ty st fn.results.toList = some ts) (ht : tupOf ts = some t) :
    ∃ v, (results fn a.tmps).run P w = .ok v w ∧ TVVal w S γ t v := by
  obtain ⟨vs, h1, h2⟩ := resT_run hTy hR h
  have hrun : (fn.results.mapM (resRun a.tmps)).run P w = .ok vs.toArray w := by
    rw [Array.mapM_eq_mapM_toList, Sem.run_map, h1]
    rfl
  have hres : (results fn a.tmps).run P w = .ok (if h : vs.toArray.size = 1 then vs.toArray[0] else .tuple vs.toArray) w := by
    have : results fn a.tmps = (do let vs ← fn.results.mapM (resRun a.tmps); pure (if h : vs.size = 1 then vs[0] else .tuple vs)) := by
      unfold results
      congr 2
    rw [this, Sem.run_bind, hrun]
    rfl
  refine ⟨_, hres, ?_⟩
  cases ts with
  | nil =>
    cases ht
    have := List.eq_nil_of_length_eq_zero h2.1.symm
    subst this
    exact ⟨[], rfl, .nil⟩
  | cons t0 ts =>
    cases ts with
    | nil =>
      cases ht
      obtain ⟨v, vs', rfl, g1, g2⟩ := h2.uncons
      have := List.eq_nil_of_length_eq_zero g2.1.symm
      subst this
      exact g1
    | cons t1 ts =>
      have hlen : vs.length = ts.length + 2 := by have := h2.1; simp at this; omega
      have hne : ¬ vs.toArray.size = 1 := by simp; omega
      rw [dif_neg hne]
      simp only [tupOf] at ht
      cases hx : t2sOf (t0 :: t1 :: ts) with
      | none => rw [hx] at ht; cases ht
      | some xs =>
        rw [hx] at ht
        cases ht
        exact ⟨vs, rfl, t2sOf_val hx h2⟩

/-- THE CONTRACT, from a walk of the body. -/
theorem callOK {f : FuncId} {fn : Func} {c : Code} {args : List TV} {res : TV} {row : List C} (hTy : TyOK P Ty) (hf : P.funcs[f]? = some fn) (hb : fn.body = some c)
    (h : ∀ w S, (∀ b, S b → b < w.heap.size) → AWp P (baseOf w S) c (endQ Ty fn.results.toList res row) (enterSt args fn.ntmps)) : CallOK P f args res row := by
  intro w S vals hS hv
  have key := h w S hS _ _ (enter_rel (n := fn.ntmps) hS hv)
  refine calls_of_wp hf hb (wp_mono key fun e a w' hq => ?_)
  have done : ∀ st, endT Ty st fn.results.toList = some (res, row) → RelE (baseOf w S) st a w' →
      a.defers = [] ∧ ∃ v, (results fn a.tmps).run P w' = .ok v w' ∧ ∃ u, Ending.returned v = .returned u ∧ Ret w S w' res row u := by
    intro st he hR
    unfold endT at he
    split at he
    · cases he
    · rename_i ts hts
      split at he
      · cases he
      · rename_i t ht
        split at he
        · cases he
        · rename_i res' row' ps ho
          split at he
          · rename_i hap
            cases he
            obtain ⟨S1, γ1, hR1, hSn⟩ := hR
            obtain ⟨v, h1, h2⟩ := results_run hTy hR1 hts ht
            refine ⟨hR1.defers, v, h1, v, rfl, ret_of_rel ⟨S1, γ1, hR1, hSn⟩ (fun S2 γ2 hR2 => ?_) ho hap⟩
            obtain ⟨v2, h3, h4⟩ := results_run hTy hR2 hts ht
            rw [h1] at h3
            cases h3
            exact h4
          · cases he
  cases e with
  | normal => obtain ⟨st, h1, h2⟩ := hq; exact done st h1 h2
  | ret => obtain ⟨st, h1, h2⟩ := hq; exact done st h1 h2
  | panic c => exact hq.elim
  | outgrown => exact hq.elim
  | exit id => obtain ⟨st, h1, h2⟩ := hq; exact h1
  | goto l => obtain ⟨st, h1, h2⟩ := hq; exact h1

end
end Go.Mv

/- Regions that draw the order of their operations. -/
namespace Go.Mv
open Go.RowKit

/-- Whatever order is picked; what is no N keeps the old blocks. -/
def wpAnyK (P : Program) (ops : Array Oper) (Q : Exit → Act → World → Prop) (N : List Nat) : Nat → Array Bool → Act → World → Prop
  | 0, listed, a, w => Region.ready .any ops listed = [] ∧ Q .normal a w
  | fuel + 1, listed, a, w => (Region.ready .any ops listed = [] → Q .normal a w) ∧
      ∀ i ∈ Region.ready .any ops listed, wpOp P ops Q i (fun a' w' => (N.contains i = false → Keep w w') ∧ wpAnyK P ops Q N fuel (listed.setIfInBounds i true) a' w') a w

/-- Does j wait for i, straight or through others that are not listed yet? -/
def waitsB (ops : Array Oper) (listed : Array Bool) (i : Nat) : Nat → Nat → Bool
  | 0, _ => false
  | n + 1, j => match ops[j]? with
    | none => false
    | some oj => oj.after.any fun e => Region.binds .any e && (e.on == i || (!listed.getD e.on true && waitsB ops listed i n e.on))

section
variable {P : Program} {ops : Array Oper} {Q : Exit → Act → World → Prop} {N : List Nat}

theorem wpAny_of_K : ∀ (fuel : Nat) (listed : Array Bool) (a : Act) (w : World), wpAnyK P ops Q N fuel listed a w → wpAny P .any ops Q fuel listed a w
  | 0, _, _, _, h => h
  | fuel + 1, _, _, _, h => ⟨h.1, fun i hi => wpOp_mono (fun a' w' h' => wpAny_of_K fuel _ a' w' h'.2) (h.2 i hi)⟩

theorem ready_waits {listed : Array Bool} {i j : Nat} (hi : listed.getD i true = false) (hj : j ∈ Region.ready .any ops listed) : ∀ n, waitsB ops listed i n j = false := by
  intro n
  cases n with
  | zero => rfl
  | succ n =>
    obtain ⟨_, oj, hoj, hall⟩ := mem_ready.1 hj
    simp only [waitsB, hoj]
    rw [Bool.eq_false_iff]
    intro hx
    obtain ⟨e, he, hb⟩ := Array.any_eq_true'.1 hx
    simp only [Bool.and_eq_true, Bool.or_eq_true, beq_iff_eq, Bool.not_eq_true'] at hb
    have g1 := hall e he hb.1
    have key : ∀ k, listed.getD k true = false → listed.getD k false = true → False := fun k a b => by
      simp only [Array.getD_eq_getD_getElem?] at a b
      cases hg : listed[k]? with
      | none => rw [hg] at b; cases b
      | some x => rw [hg] at a b; simp at a b; rw [a] at b; cases b
    rcases hb.2 with heq | ⟨hu, _⟩
    · exact key e.on (heq ▸ hi) (by simpa [Array.getD_eq_getD_getElem?] using g1)
    · exact key e.on hu (by simpa [Array.getD_eq_getD_getElem?] using g1)

theorem waits_mono {listed : Array Bool} {i j0 : Nat} (hi : listed.getD i true = false) (hj : j0 ∈ Region.ready .any ops listed) : ∀ (n k : Nat), waitsB ops listed i n k = true → waitsB ops (listed.setIfInBounds j0 true) i n k = true
  | 0, _, h => by cases h
  | n + 1, k, h => by
    simp only [waitsB] at h ⊢
    split at h
    · cases h
    · rename_i ok hk
      obtain ⟨e, he, hb⟩ := Array.any_eq_true'.1 h
      refine Array.any_eq_true'.2 ⟨e, he, ?_⟩
      simp only [Bool.and_eq_true, Bool.or_eq_true, beq_iff_eq, Bool.not_eq_true'] at hb ⊢
      refine ⟨hb.1, hb.2.imp id fun ⟨hu, hw⟩ => ?_⟩
      have hne : j0 ≠ e.on := fun heq => by
        rw [← heq, ready_waits hi hj n] at hw
        cases hw
      exact ⟨by rw [getD_set_ne true hne]; exact hu, waits_mono hi hj n e.on hw⟩

/-- An operation that only looks may be taken first. -/
theorem wpAnyK_first {i : Nat} {oi : Oper} {v : Value} (hi : ops[i]? = some oi) (hsel : Region.noSelect ops = true) (hQ : ∀ c a w, ¬ Q (.panic c) a w) : ∀ (fuel : Nat) (listed : Array Bool) (a : Act) (w : World),
    (∀ j oj, ops[j]? = some oj → j ≠ i → listed.getD j true = false → (∀ n, waitsB ops listed i n j = false) → oi.apart ops oj = true ∧ N.contains j = false) →
    i ∈ Region.ready .any ops listed → YieldsIf P ops (Keep w) oi v a → wpAnyK P ops Q N fuel (listed.setIfInBounds i true) (a.put oi.dst v) w → wpAnyK P ops Q N (fuel + 1) listed a w := by
  intro fuel
  induction fuel with
  | zero =>
    intro listed a w _ hr hy H
    refine ⟨fun h => (by rw [h] at hr; cases hr), fun j hj => ?_⟩
    by_cases hji : j = i
    · subst hji; exact hy.wpOp hi (Keep.refl w) ⟨fun _ => Keep.refl w, H⟩
    · have := ready_mono hj hji
      rw [H.1] at this
      cases this
  | succ fuel ih =>
    intro listed a w hfree hr hy H
    refine ⟨fun h => (by rw [h] at hr; cases hr), fun j hj => ?_⟩
    by_cases hji : j = i
    · subst hji; exact hy.wpOp hi (Keep.refl w) ⟨fun _ => Keep.refl w, H⟩
    · obtain ⟨hjun, oj, hoj, hall⟩ := mem_ready.1 hj
      have hun := (mem_ready.1 hr).1
      obtain ⟨hap, hN⟩ := hfree j oj hoj hji hjun (ready_waits hun hj)
      have h2 := wpOp_putIf hoj hap (fun cs b => Region.noSelect_spec hsel i oi cs b hi) (fun cs b => Region.noSelect_spec hsel j oj cs b hoj) (fun c a w h => absurd h (hQ c _ w)) hy (H.2 j (ready_mono hj hji))
      refine wpOp_mono (fun a' w' h3 => ?_) h2
      obtain ⟨hy', hk, hrest⟩ := h3
      have hkeep := hk hN
      refine ⟨fun _ => hkeep, ih (listed.setIfInBounds j true) a' w' (fun k ok hk hki hun2 hno => hfree k ok hk hki ?_ fun n => ?_) (ready_mono hr (Ne.symm hji)) ?_ ?_⟩
      · by_cases hjk : j = k
        · subst hjk; exact hjun
        · rw [getD_set_ne true hjk] at hun2; exact hun2
      · rw [Bool.eq_false_iff]
        intro hx
        have := waits_mono hun hj n k hx
        rw [hno n] at this
        cases this
      · exact hy'.imp (fun ⟨h1, h2⟩ => ⟨h1, fun w'' hw => h2 w'' (hkeep.trans hw)⟩) id
      · rw [Array.setIfInBounds_comm _ _ hji]
        exact hrest
end

/-! ### Told -/
def AAny (P : Program) (B : Base) (ops : Array Oper) (Q : AQ) (N : List Nat) (fuel : Nat) (listed : Array Bool) (st : St) : Prop := ∀ a w, RelE B st a w → wpAnyK P ops (liftQ B Q) N fuel listed a w

def AOne (P : Program) (B : Base) (ops : Array Oper) (Q : AQ) (N : List Nat) (fuel : Nat) (listed : Array Bool) (st : St) (i : Nat) : Prop :=
  ∀ a w, RelE B st a w → wpOp P ops (liftQ B Q) i (fun a' w' => (N.contains i = false → Keep w w') ∧ wpAnyK P ops (liftQ B Q) N fuel (listed.setIfInBounds i true) a' w') a w

def AAll (P : Program) (B : Base) (ops : Array Oper) (Q : AQ) (N : List Nat) (fuel : Nat) (listed : Array Bool) (st : St) (rs : List Nat) : Prop := ∀ i ∈ rs, AOne P B ops Q N fuel listed st i

section
variable {P : Program} {Ty : Types} {B : Base} {S : Nat → Prop} {γ : Path → Option Loc} {st : St} {a : Act} {w : World} {Q : AQ} {ops : Array Oper} {N : List Nat} {fuel : Nat} {listed : Array Bool}

theorem liftQ_panic (c : List PanicEntry) (a : Act) (w : World) : ¬ liftQ B Q (.panic c) a w := id

theorem aa_done (hr : Region.ready .any ops listed = []) (h : Q .normal st) : AAny P B ops Q N fuel listed st := fun a w hR => by
  cases fuel with
  | zero => exact ⟨hr, st, h, hR⟩
  | succ fuel => exact ⟨fun _ => ⟨st, h, hR⟩, by rw [hr]; simp⟩

theorem aa_all (rs : List Nat) (hr : Region.ready .any ops listed = rs) (hne : rs.isEmpty = false) (h : AAll P B ops Q N fuel listed st rs) : AAny P B ops Q N (fuel + 1) listed st := fun a w hR =>
  ⟨fun h0 => (by rw [hr] at h0; subst h0; cases hne), fun i hi => h i (hr ▸ hi) a w hR⟩

theorem drew_rel (h : RelE B st a w) : RelE B st a { w with drawn := w.drawn + 1 } := by
  obtain ⟨S, γ, hR, hS⟩ := h
  exact ⟨S, γ, hR.drew, hS⟩

theorem a_draw {id : Nat} (hm : P.follows .mixedOrders = true) (N : List Nat) (h : AAny P B ops Q N ops.size (Array.replicate ops.size false) st) : AWp P B (.region id ops true) Q st := fun a _ hR =>
  wp_region_any hm (wpAny_of_K _ _ _ _ (h a _ (drew_rel hR)))


/-! ### In one go -/
abbrev iV (n : Int) : TV := .one (.c (.v (.int .i64 n)))
abbrev bV (b : Bool) : TV := .one (.c (.v (.bool b)))
abbrev sV (s : ByteArray) : TV := .one (.c (.v (.string s)))
abbrev iC (n : Int) : C := .v (.int .i64 n)
abbrev bC (b : Bool) : C := .v (.bool b)
abbrev sC (s : ByteArray) : C := .v (.string s)
/-- n slots, but for those that l tells. -/
def slots (n : Nat) (l : List (Nat × TV)) : List TV := (List.range n).map fun k => ((l.find? fun p => p.1 == k).map (·.2)).getD (.one .unk)
def holds (n : Nat) (l : List (Nat × List C)) : Rows := (List.range n).map fun k => ((l.find? fun p => p.1 == k).map (·.2)).getD [.dead]
def mk (n : Nat) (l : List (Nat × TV)) (m : List (Nat × List C)) : St := { t := slots n l, m := holds n m }

def tyOf (l : List (Nat × TInfo)) : Types := fun t => (l.find? fun p => p.1 == t).map (·.2)

theorem tyOf_ok {l : List (Nat × TInfo)} (h : ∀ p ∈ l, p.2.OK P p.1) : TyOK P (tyOf l) := fun t i hi => by
  unfold tyOf at hi
  cases hf : l.find? (fun p => p.1 == t) with
  | none => rw [hf] at hi; cases hi
  | some p =>
    rw [hf] at hi
    cases hi
    have h1 := List.find?_some hf
    have h2 := List.mem_of_find?_eq_some hf
    simp only [beq_iff_eq] at h1
    subst h1
    exact h p h2

end
end Go.Mv

/- Freezing: what one owns, and will not write any more. -/
namespace Go.Mv
open Go.RowKit

def T1.freeze (q : Path) (i f : Nat) (c : C) : T1 → T1
  | .so q' i' f' n => if q' = q ∧ i' = i ∧ f' = f ∧ fits c (some n) = true then .c c else (T1.so q' i' f' n).forget (q ++ [(i, f)])
  | .pl p 0 0 => if p = q ++ [(i, f)] ∧ fits c none = true then .c c else (T1.pl p 0 0).forget (q ++ [(i, f)])
  | t => t.forget (q ++ [(i, f)])

/-- The ghost step: the tree at a place is only read from here on. -/
def freezeT (np : Nat) (st : St) (q : Path) (i f : Nat) : Option St :=
  if q.isEmpty && decide (i < np) then none else
  match getR st.m q with
  | none => none
  | some rows => match at2 rows i f with
    | none => none
    | some c => match getR (setR st.m q (set2 rows i f .dead)) q with
      | none => none
      | some rows1 => match at2 rows1 i f with
        | none => none
        | some _ => some { t := st.t.map (TV.map1 (T1.freeze q i f c)), m := setR (setR st.m q (set2 rows i f .dead)) q (set2 rows1 i f (.fz c)) }

section
variable {P : Program} {Ty : Types} {B : Base} {S : Nat → Prop} {γ : Path → Option Loc} {st : St} {a : Act} {w : World} {Q : AQ}

theorem fits_some {c : C} {n : Nat} (h : fits c (some n) = true) : ∃ sz rs, c = .sl sz rs ∧ rs.length = n := by
  cases c <;> simp [fits] at h
  exact ⟨_, _, rfl, h⟩

theorem fits_none {c : C} (h : fits c none = true) : ∃ r, c = .bx r := by
  cases c <;> simp [fits] at h
  exact ⟨_, rfl⟩

/-- What is frozen is new. -/
theorem freeze_gen {st' : St} {q : Path} {i f : Nat} (hR : Rel B S γ st a w) (hSn : ∀ b, S b → B.S b ∨ B.w.heap.size ≤ b) (h : freezeT B.np st q i f = some st')
    (hnew : ∀ rows c s rs l, getR st.m q = some rows → at2 rows i f = some c → getX c s = some rs → γ (q ++ (i, f) :: s) = some l → B.w.heap.size ≤ l.b) : RelE B st' a w := by
  unfold freezeT at h
  split at h
  · cases h
  rename_i hnp
  split at h
  · cases h
  rename_i rows hq
  split at h
  · cases h
  rename_i c hc
  split at h
  · cases h
  rename_i rows1 hq1
  split at h
  · cases h
  rename_i c1 hc1
  cases h
  obtain ⟨v, hv, hvc⟩ : ∃ v, Hdr w S c (γ (q ++ [(i, f)])) v ∧ (∀ l, q ≠ [] → γ q = some l → w.cell? ⟨l.b, l.off + i * l.sz + f, none⟩ = some v) := by
    by_cases hne : q = []
    · obtain ⟨v, hv⟩ := hR.mem.someHdr hq hc
      exact ⟨v, hv, fun _ hn => absurd hne hn⟩
    · cases hl : γ q with
      | none =>
        have := hR.mem.loc q rows hne hq
        rw [hl] at this
        rw [(show rows = [] from this)] at hc
        simp [at2] at hc
      | some l =>
        obtain ⟨v, h1, h2⟩ := hR.mem.cell q rows l i f c hne hq hl hc
        exact ⟨v, h2, fun l' _ hl' => by cases hl'; exact h1⟩
  have hdet := hR.mem.det hq hc hv
  let S' : Nat → Prop := fun b => S b ∨ ∃ s rs l, getX c s = some rs ∧ γ (q ++ (i, f) :: s) = some l ∧ l.b = b
  have hSS : ∀ b, S b → S' b := fun b hb => .inl hb
  have hrep : RepF w S' c v := Det.rep hSS c _ v hdet fun s rs l hg hl => .inr ⟨s, rs, l, hg, hl, rfl⟩
  have hkill := hR.mem.kill hq hc
  have key := @getR_put st.m rows q i f .dead c hq hc
  have hR1 : Rel B S (putG γ q i f fun _ => none) { t := st.t.map (TV.map1 (T1.forget (q ++ [(i, f)]))), m := setR st.m q (set2 rows i f .dead) } a w :=
    hR.putM (x := .dead) (δ := fun _ => none) hkill hq hc (fun _ _ => rfl) (Nat.le_refl _) hR.fr (fun s rs l hg => by simp [getX, C.rows] at hg) (fun _ _ hd => absurd rfl hd)
  have hmem : MemOK w S' (setR st.m q (set2 rows i f .dead)) (putG γ q i f fun _ => none) := hkill.frame hSS (fun _ _ => rfl) fun p rs l hp hr hl => by
    refine ⟨rfl, fun hs => ?_⟩
    rcases hs with hs | ⟨s, rs', l', hg, hl', hb⟩
    · have := hkill.loc p rs hp hr
      rw [hl] at this
      exact this.1 hs
    · rcases key p rs hr with ⟨s2, _, hg2⟩ | ⟨hn, rs0, hg0, _⟩
      · simp [getX, C.rows] at hg2
      · rw [putG_not hn] at hl
        have := hR.mem.inj p (q ++ (i, f) :: s) rs0 rs' l l' hp (by simp) hg0 (by rw [getX_of hq hc]; exact hg) hl hl' hb.symm
        exact hn (this ▸ ⟨s, by simp⟩)
  have hlt : ∀ b, S' b → b < w.heap.size := fun b hb => by
    rcases hb with hb | ⟨s, rs, l, hg, hl, rfl⟩
    · exact hR.lt b hb
    · have := hdet.loc s rs hg
      simp only [hl] at this
      obtain ⟨_, _, _, cells, e, lo, hi, h4, _⟩ := this
      exact lt_of_heap h4
  have hR2 : Rel B S' (putG γ q i f fun _ => none) { t := st.t.map (TV.map1 (T1.forget (q ++ [(i, f)]))), m := setR st.m q (set2 rows i f .dead) } a w :=
    ⟨fun b hb => hSS b (hR1.sS b hb), hlt, hmem, fun k t hk => TVVal.imp (fun _ _ ht => T1Val.frame hSS (fun _ _ => rfl) ht) (hR1.tv k t hk), hR1.size, hR1.msize, hR1.defers, hR1.own, hR1.fix, hR1.fr⟩
  have hfz : Det w S' (.fz c) (fun _ => none) v := Det.of_none rfl hrep
  have hput : MemOK w S' (setR (setR st.m q (set2 rows i f .dead)) q (set2 rows1 i f (.fz c))) (putG (putG γ q i f fun _ => none) q i f fun _ => none) :=
    hmem.put_core hfz (Apart.of_none rfl) hq1 hc1 (fun _ _ _ _ _ _ cells _ _ hh => ⟨cells, hh, rfl⟩) (fun _ _ _ _ _ _ _ _ _ _ _ => rfl)
      (fun l hne hl => hvc l hne (by rw [← hl]; exact (putG_not (fun hp => by have := hp.length_le; simp at this; omega)).symm)) (fun _ _ => rfl)
  have hR3 := hR2.putN hput hq1 hc1 rfl (fun _ _ => rfl) (Nat.le_refl _) hR2.fr
  have hone : ∀ t x, T1Val w S γ t x → T1Val w S' (putG γ q i f fun _ => none) (t.freeze q i f c) x := by
    intro t x ht
    have hfor : T1Val w S' (putG γ q i f fun _ => none) (t.forget (q ++ [(i, f)])) x := T1Val.forget (putG_forget γ _ q i f) (T1Val.frame hSS (fun _ _ => rfl) ht)
    cases t with
    | so q' i' f' n =>
      show T1Val w S' _ (if _ then _ else _) x
      split
      · rename_i hcond
        obtain ⟨rfl, rfl, rfl, hfit⟩ := hcond
        obtain ⟨sz, rs, rfl, rfl⟩ := fits_some hfit
        have hxv : x = v := by
          rcases ht with ⟨l, hl, hx, _⟩ | ⟨hl, h0, hx⟩
          · rw [hl] at hv; rw [hx, hv.1]
          · rw [hl] at hv; rw [hx, hv.2]
        rw [hxv]
        exact hrep
      · exact hfor
    | pl p i' f' =>
      cases i' with
      | succ i' => exact hfor
      | zero =>
        cases f' with
        | succ f' => exact hfor
        | zero =>
          show T1Val w S' _ (if _ then _ else _) x
          split
          · rename_i hcond
            obtain ⟨rfl, hfit⟩ := hcond
            obtain ⟨r, rfl⟩ := fits_none hfit
            obtain ⟨l, hl, hx⟩ := ht
            have hxv : x = v := by
              rw [hl] at hv
              rw [hx, show v = .pointer (some ⟨l.b, l.off, none⟩) from hv]
              simp
            rw [hxv]
            exact hrep
          · exact hfor
    | _ => exact hfor
  refine ⟨S', _, ⟨hR3.sS, hR3.lt, hR3.mem, fun k t hk => ?_, by simp [hR.size], hR3.msize.trans (by simp), hR3.defers, hR3.own, hR3.fix, hR3.fr⟩, fun b hb => ?_⟩
  · obtain ⟨t0, ht0, rfl⟩ := getElem?_map_some hk
    exact TVVal.map1 hone (hR.tv k t0 ht0)
  · rcases hb with hb | ⟨s, rs, l, hg, hl, rfl⟩
    · exact hSn b hb
    · exact .inr (hnew rows c s rs l hq hc hg hl)

theorem freeze_rel (hF : ∀ b o, ¬ B.F b o) {st' : St} {q : Path} {i f : Nat} (hR : RelE B st a w) (h : freezeT B.np st q i f = some st') : RelE B st' a w := by
  obtain ⟨S, γ, hR, hSn⟩ := hR
  refine freeze_gen hR hSn h fun rows c s rs l hq hc hg hl => ?_
  rcases hR.own (q ++ (i, f) :: s) rs l (by simp) (by rw [getX_of hq hc]; exact hg) hl with h1 | ⟨⟨o, ho⟩, _⟩
  · exact h1
  · exact absurd ho (hF _ o)

/-! ### An element of a slice that is only read, at an index that is told by a number -/
/-- What the operation says: its slot, the cells a row has, the slice's rows, the index. -/
def idxArgs (Ty : Types) (ops : Array Oper) (st : St) (i : Nat) : Option (Nat × Nat × Rows × Int) :=
  match ops[i]? with
  | none => none
  | some o => match wantT ops st o, o.dst, o.op with
    | some true, some d, .indexAddr t x ix => match Ty t with
      | none => none
      | some ti => match ti.k with
        | .slice e => match Ty e with
          | none => none
          | some ei => match evT st x, evT st ix with
            | .one (.c (.sl _ rows)), .one (.c (.v (.int _ n))) => some (d, ei.size, rows, n)
            | _, _ => none
        | _ => none
    | _, _, _ => none

theorem idx_step {ops : Array Oper} {i d size : Nat} {n : Int} {rows : Rows} {row : List C} (h : idxArgs Ty ops st i = some (d, size, rows, n)) (h0 : 0 ≤ n) (hr : rows[n.toNat]? = some row) (hl : row.length = size) :
    ∃ o, ops[i]? = some o ∧ wantT ops st o = some true ∧ o.dst = some d ∧ stepP Ty st o.op = some (.one (.fp row 0)) := by
  unfold idxArgs at h
  split at h
  · cases h
  rename_i o ho
  split at h
  · rename_i d' t x ix hw hd hop
    split at h
    · cases h
    rename_i ti hti
    split at h
    · rename_i e hk
      split at h
      · cases h
      rename_i ei hei
      split at h
      · rename_i sz rows' kd k' hx hix
        cases h
        refine ⟨o, ho, hw, hd, ?_⟩
        have hlt : n.toNat < rows.length := (List.getElem?_eq_some_iff.1 hr).1
        simp only [hop, stepP, stepIndexAddr, hti, hk, hei, hix, intT, hx]
        simp only [indexAt]
        rw [if_pos ⟨h0, by omega⟩]
        simp only [hr]
        rw [if_pos hl]
      · cases h
    · cases h
  · cases h

/-! ### Calls, as the walk finds them -/
def callArgs (ops : Array Oper) (st : St) (i : Nat) : Option (FuncId × Nat × List TV) :=
  match ops[i]? with
  | none => none
  | some o => match wantT ops st o, o.dst, o.op with
    | some true, some d, .call { callee := .value (.func f), args, argTypes := _ } => some (f, d, args.toList.map (evT st))
    | _, _, _ => none

theorem callArgs_spec {ops : Array Oper} {i d : Nat} {f : FuncId} {A : List TV} (h : callArgs ops st i = some (f, d, A)) :
    ∃ (o : Oper) (args : Array Operand) (argTypes : Array TypeId), ops[i]? = some o ∧ o.op = .call { callee := .value (.func f), args, argTypes } ∧ wantT ops st o = some true ∧ o.dst = some d ∧ args.toList.map (evT st) = A := by
  unfold callArgs at h
  split at h
  · cases h
  rename_i o ho
  split at h
  · rename_i d' f' args argTypes hw hd hop
    cases h
    exact ⟨o, args, argTypes, ho, hop, hw, hd, rfl⟩
  · cases h

/-! ### Drawn regions, as the walk finds them -/
section
variable {ops : Array Oper} {N : List Nat} {fuel : Nat} {listed : Array Bool}

end

/-! ### One state behind all ways -/
/-- An element of a list, at a number. -/
def el {α : Type} [Inhabited α] (xs : List α) (n : Int) : α := (xs[n.toNat]?).getD default

theorem drop_of_get {α : Type} {xs : List α} {k : Nat} {x : α} (h : xs[k]? = some x) : xs.drop k = x :: xs.drop (k + 1) := by
  obtain ⟨hk, rfl⟩ := List.getElem?_eq_some_iff.1 h
  exact List.drop_eq_getElem_cons hk

theorem mv_wrap {n : Int} (h0 : -9223372036854775808 ≤ n) (h1 : n < 9223372036854775808) : IntKind.i64.wrap n = n := by
  rw [IntKind.wrap_i64]
  omega

end
end Go.Mv

/- Rows of one's own, told by a term: an element's place, an element set, a slice made. -/
namespace Go.Mv
open Go.RowKit

theorem set2_row {rows : Rows} {n f : Nat} {row : List C} {x : C} (h : rows[n]? = some row) : set2 rows n f x = rows.set n (row.set f x) := by
  apply List.ext_getElem?
  intro j
  unfold set2
  by_cases hj : n = j
  · subst hj
    have hlt := (List.getElem?_eq_some_iff.1 h).1
    rw [List.getElem?_modify_eq, h, List.getElem?_set_self hlt]
    rfl
  · rw [List.getElem?_modify_ne _ _ hj, List.getElem?_set_ne hj]

theorem setR_setR {m r0 r1 r2 : Rows} {q : Path} (h : getR m q = some r0) (h1 : r1.length = r0.length) : setR (setR m q r1) q r2 = setR m q r2 := by
  induction q generalizing m with
  | nil => rfl
  | cons a q ih =>
    obtain ⟨i, f⟩ := a
    simp only [getR] at h
    cases hc : at2 m i f with
    | none => rw [hc] at h; cases h
    | some c =>
      rw [hc] at h
      simp only [Option.bind_some] at h
      cases hr : c.rows with
      | none => rw [hr] at h; cases h
      | some cr =>
        rw [hr] at h
        simp only [Option.bind_some] at h
        simp only [setR, hc, hr]
        rw [at2_set2_same hc]
        simp only [C.rows_withRows hr (setR_length cr q r0 r1 h h1)]
        have hw : (c.withRows (setR cr q r1)).withRows (setR (setR cr q r1) q r2) = c.withRows (setR cr q r2) := by
          rw [ih h]
          cases c <;> rfl
        rw [hw]
        unfold set2
        rw [List.modify_modify_eq]
        congr 1
        funext r
        simp

theorem setR_self {m r0 : Rows} {q : Path} (h : getR m q = some r0) : setR m q r0 = m := by
  induction q generalizing m with
  | nil => cases h; rfl
  | cons a q ih =>
    obtain ⟨i, f⟩ := a
    simp only [getR] at h
    cases hc : at2 m i f with
    | none => rw [hc] at h; cases h
    | some c =>
      rw [hc] at h
      simp only [Option.bind_some] at h
      cases hr : c.rows with
      | none => rw [hr] at h; cases h
      | some cr =>
        rw [hr] at h
        simp only [Option.bind_some] at h
        simp only [setR, hc, hr, ih h]
        have hw : c.withRows cr = c := by cases c <;> simp [C.rows] at hr <;> subst hr <;> rfl
        rw [hw]
        unfold at2 at hc
        cases hrow : m[i]? with
        | none => rw [hrow] at hc; cases hc
        | some row =>
          rw [hrow] at hc
          simp only [Option.bind_some] at hc
          rw [set2_row hrow]
          have e1 : row.set f c = row := by
            apply List.ext_getElem?
            intro j
            by_cases hj : f = j
            · subst hj; rw [List.getElem?_set_self (List.getElem?_eq_some_iff.1 hc).1, hc]
            · rw [List.getElem?_set_ne hj]
          rw [e1]
          apply List.ext_getElem?
          intro j
          by_cases hj : i = j
          · subst hj; rw [List.getElem?_set_self (List.getElem?_eq_some_iff.1 hrow).1, hrow]
          · rw [List.getElem?_set_ne hj]

def isC : T1 → Bool
  | .c _ => true
  | _ => false

/-- The slots behind the cells ts set over the cells 'row', from cell f on. -/
def storeF (q : Path) (n : Nat) : List Nat → Nat → List C → List T1 → List TV → Option (List TV)
  | _, _, _, [], t => some t
  | szs, f, c :: row, x :: ts, t => if isC x then
      storeF q n szs.tail (f + 1) row ts (if c.rows.isSome || (ownC (szs.headD 0) x).rows.isSome then t.map (TV.map1 (T1.forget (q ++ [(n, f)]))) else t)
    else none
  | _, _, [], _ :: _, _ => none

theorem isC_forget {x : T1} {a : Path} (h : isC x = true) : x.forget a = x := by cases x <;> first | rfl | cases h

theorem map_forget_id {ts : List T1} (a : Path) (fl : Bool) (h : ts.all isC = true) : ts.map (fgt fl a) = ts := by
  simp only [List.all_eq_true] at h
  have : ∀ t ∈ ts, fgt fl a t = t := fun t ht => by
    unfold fgt
    split
    · exact isC_forget (h t ht)
    · rfl
  rw [List.map_congr_left this]
  simp

theorem storeF_all {q : Path} {n : Nat} : ∀ {szs : List Nat} {f : Nat} {row : List C} {ts : List T1} {t t' : List TV}, storeF q n szs f row ts t = some t' → ts.all isC = true
  | _, _, _, [], _, _, _ => rfl
  | szs, f, c :: row, x :: ts, t, t', h => by
    simp only [storeF] at h
    split at h
    · rename_i hx
      simp only [List.all_cons, hx, Bool.true_and]
      exact storeF_all h
    · cases h
  | _, _, [], _ :: _, _, _, h => by cases h

theorem storeL_row {q : Path} {n : Nat} : ∀ {ts : List T1} {szs : List Nat} {f : Nat} {row : List C} {st : St} {t' : List TV} {rows : Rows} {ds : List T1}, storeF q n szs f (row.drop f) ts st.t = some t' → ds.all isC = true →
    getR st.m q = some rows → rows[n]? = some row → f + ts.length ≤ row.length →
    storeL st q n szs f ds ts = some ({ t := t', m := setR st.m q (rows.set n (row.take f ++ ownCs szs ts ++ row.drop (f + ts.length))) }, ds ++ ts)
  | [], szs, f, row, st, t', rows, ds, h, hds, hq, hr, hl => by
    have ht : t' = st.t := by
      cases szs <;> simp [storeF] at h <;> exact h.symm
    subst ht
    have e : rows.set n (row.take f ++ ownCs szs [] ++ row.drop (f + ([] : List T1).length)) = rows := by
      have : row.take f ++ ownCs szs [] ++ row.drop (f + ([] : List T1).length) = row := by
        cases szs <;> simp [ownCs]
      rw [this]
      apply List.ext_getElem?
      intro j
      by_cases hj : n = j
      · subst hj; rw [List.getElem?_set_self (List.getElem?_eq_some_iff.1 hr).1, hr]
      · rw [List.getElem?_set_ne hj]
    rw [e, setR_self hq, storeL]
    simp
  | x :: ts, szs, f, row, st, t', rows, ds, h, hds, hq, hr, hl => by
    simp only [List.length_cons] at hl
    have hf : f < row.length := by omega
    rw [List.drop_eq_getElem_cons hf] at h
    simp only [storeF] at h
    split at h
    · rename_i hx
      have hk : known x = true := by cases x <;> first | rfl | cases hx
      have hc : at2 rows n f = some row[f] := by simp [at2, hr, hf]
      have hs1 : store1 st (szs.headD 0) q n f x = some ({ t := (if row[f].rows.isSome || (ownC (szs.headD 0) x).rows.isSome then st.t.map (TV.map1 (T1.forget (q ++ [(n, f)]))) else st.t), m := setR st.m q (rows.set n (row.set f (ownC (szs.headD 0) x))) },
          row[f].rows.isSome || (ownC (szs.headD 0) x).rows.isSome) := by
        unfold store1
        rw [hk]
        simp only [Bool.true_eq_false, if_false, hq, hc, set2_row hr]
        split <;> simp_all
      rw [storeL, hs1]
      simp only []
      have hts := storeF_all h
      rw [map_forget_id _ _ hts, map_forget_id _ _ (by simp [hds, hx])]
      have hq' : getR (setR st.m q (rows.set n (row.set f (ownC (szs.headD 0) x)))) q = some (rows.set n (row.set f (ownC (szs.headD 0) x))) := by
        have := getR_setR_below (s := []) (r' := rows.set n (row.set f (ownC (szs.headD 0) x))) hq (by simp)
        simpa [getR] using this
      have hr' : (rows.set n (row.set f (ownC (szs.headD 0) x)))[n]? = some (row.set f (ownC (szs.headD 0) x)) := List.getElem?_set_self (List.getElem?_eq_some_iff.1 hr).1
      have ih := storeL_row (st := { t := (if row[f].rows.isSome || (ownC (szs.headD 0) x).rows.isSome then st.t.map (TV.map1 (T1.forget (q ++ [(n, f)]))) else st.t), m := setR st.m q (rows.set n (row.set f (ownC (szs.headD 0) x))) })
        (row := row.set f (ownC (szs.headD 0) x)) (f := f + 1) (ds := ds ++ [x]) (szs := szs.tail) (ts := ts) (t' := t') (rows := rows.set n (row.set f (ownC (szs.headD 0) x)))
        (by rw [List.drop_set_of_lt (by omega)]; exact h) (by simp [hds, hx]) hq' hr' (by simp; omega)
      rw [ih]
      have e2 : ((row.set f (ownC (szs.headD 0) x)).take (f + 1) ++ ownCs szs.tail ts ++ (row.set f (ownC (szs.headD 0) x)).drop (f + 1 + ts.length)) = row.take f ++ ownCs szs (x :: ts) ++ row.drop (f + (ts.length + 1)) := by
        rw [List.drop_set_of_lt (by omega), show f + 1 + ts.length = f + (ts.length + 1) by omega]
        have : (row.set f (ownC (szs.headD 0) x)).take (f + 1) = row.take f ++ [ownC (szs.headD 0) x] := by
          rw [List.take_add_one, List.take_set_of_le (Nat.le_refl _)]
          simp [hf]
        rw [this]
        cases szs <;> simp [ownCs]
      rw [e2]
      simp only [List.set_set, List.length_cons, List.append_assoc, List.singleton_append]
      rw [setR_setR hq (by simp)]
    · cases h

end Go.Mv

/- The walk's rules for rows of one's own that a term tells. -/
namespace Go.Mv
open Go.RowKit

section
variable {P : Program} {Ty : Types} {B : Base} {S : Nat → Prop} {γ : Path → Option Loc} {st : St} {a : Act} {w : World} {Q : AQ} {ops : Array Oper}

/-- One operation, carried out as a term says. -/
theorem ao_one {i : Nat} {l : List Nat} {o : Oper} {st' st1 : St} (ks : List Nat) (hTy : TyOK P Ty) (ho : ops[i]? = some o) (hw : wantT ops st o = some true) (hs : step Ty B.np st o = some st') (hst : st'.keep ks = st1) (k : AOps P B ops l Q st1) :
    AOps P B ops (i :: l) Q st := by
  have h : runOps Ty B.np ops [i] st = some st' := by
    simp only [runOps, ho, hw, hs]
  exact ao_run hTy [i] h (ao_keep ks (hst ▸ k))

/-! ### The place of an element -/
def idxOwn (Ty : Types) (ops : Array Oper) (st : St) (i : Nat) : Option (Nat × Nat × Path × Rows × Int × Nat) :=
  match ops[i]? with
  | none => none
  | some o => match wantT ops st o, o.dst, o.op with
    | some true, some d, .indexAddr t x ix => match Ty t with
      | none => none
      | some ti => match ti.k with
        | .slice e => match Ty e with
          | none => none
          | some ei => match evT st x, evT st ix with
            | .one (.so q i f n0), .one (.c (.v (.int _ n))) => match getR st.m (q ++ [(i, f)]) with
              | some rows => some (d, ei.size, q ++ [(i, f)], rows, n, n0)
              | none => none
            | _, _ => none
        | _ => none
    | _, _, _ => none

/-! ### An element set -/
theorem adoptL_none {p : Path} {i : Nat} : ∀ {ts : List T1} {st : St} {f : Nat}, ts.all isC = true → adoptL st p i f ts = some st
  | [], st, f, _ => by rw [adoptL]
  | t :: ts, st, f, h => by
    simp only [List.all_cons, Bool.and_eq_true] at h
    have : srcOf t = none := by cases t <;> first | rfl | cases h.1
    rw [adoptL, this]
    exact adoptL_none h.2

/-! ### A slice made -/
/-! ### What is only read, told in other words -/
/-! ### A slice of one's own whose rows a term tells, frozen as one slot holds it -/
def freezeAt (np : Nat) (st : St) (q : Path) (i f k : Nat) : Option (Nat × Rows × St) :=
  if q.isEmpty && decide (i < np) then none else
  match st.t[k]? with
  | some (.one (.so q' i' f' n)) => if q' = q ∧ i' = i ∧ f' = f then
      match getR st.m q with
      | none => none
      | some rows => match at2 rows i f with
        | some (.sl sz rs) => match getR (setR st.m q (set2 rows i f .dead)) q with
          | none => none
          | some rows1 => match at2 rows1 i f with
            | none => none
            | some _ => some (n, rs, { t := (st.t.map (TV.map1 (T1.forget (q ++ [(i, f)])))).set k (.one (.c (.sl sz rs))), m := setR (setR st.m q (set2 rows i f .dead)) q (set2 rows1 i f (.fz (.sl sz rs))) })
        | _ => none
    else none
  | _ => none

theorem freeze_forget {q : Path} {i f : Nat} {c : C} : ∀ {t : T1} {x : Value}, T1Val w S γ (t.freeze q i f c) x → T1Val w S γ (t.forget (q ++ [(i, f)])) x := by
  intro t x h
  cases t with
  | so q' i' f' n =>
    by_cases hc : q' = q ∧ i' = i ∧ f' = f ∧ fits c (some n) = true
    · obtain ⟨rfl, rfl, rfl, _⟩ := hc
      have : mayPre (q' ++ [(i', f')]) (q' ++ [(i', f')]) = true := mayPre_of (List.prefix_refl _)
      show T1Val w S γ (if mayPre (q' ++ [(i', f')]) (q' ++ [(i', f')]) then .unk else _) x
      rw [if_pos this]
      trivial
    · have e : (T1.so q' i' f' n).freeze q i f c = (T1.so q' i' f' n).forget (q ++ [(i, f)]) := if_neg hc
      rw [e] at h
      exact h
  | pl p i' f' =>
    cases i' with
    | succ i' => exact h
    | zero =>
      cases f' with
      | succ f' => exact h
      | zero =>
        by_cases hc : p = q ++ [(i, f)] ∧ fits c none = true
        · obtain ⟨rfl, _⟩ := hc
          have : mayPre (q ++ [(i, f)]) (q ++ [(i, f)]) = true := mayPre_of (List.prefix_refl _)
          show T1Val w S γ (if mayPre (q ++ [(i, f)]) (q ++ [(i, f)]) then .unk else _) x
          rw [if_pos this]
          trivial
        · have e : (T1.pl p 0 0).freeze q i f c = (T1.pl p 0 0).forget (q ++ [(i, f)]) := if_neg hc
          rw [e] at h
          exact h
  | _ => exact h

theorem freezeAt_rel (hF : ∀ b o, ¬ B.F b o) {q : Path} {i f k n : Nat} {rs : Rows} {st3 : St} (hR : RelE B st a w) (h : freezeAt B.np st q i f k = some (n, rs, st3)) (hn : rs.length = n) : RelE B st3 a w := by
  unfold freezeAt at h
  split at h
  · cases h
  rename_i hnp
  split at h
  · rename_i q' i' f' n' hk
    split at h
    · rename_i hqq
      obtain ⟨rfl, rfl, rfl⟩ := hqq
      split at h
      · cases h
      rename_i rows hq
      split at h
      · rename_i sz rs' hc
        split at h
        · cases h
        rename_i rows1 hq1
        split at h
        · cases h
        rename_i c1 hc1
        cases h
        have hfz : freezeT B.np st q' i' f' = some { t := st.t.map (TV.map1 (T1.freeze q' i' f' (.sl sz rs))), m := setR (setR st.m q' (set2 rows i' f' .dead)) q' (set2 rows1 i' f' (.fz (.sl sz rs))) } := by
          unfold freezeT
          rw [if_neg hnp]
          simp only [hq, hc, hq1, hc1]
        obtain ⟨S, γ, hR2, hS⟩ := freeze_rel hF hR hfz
        refine ⟨S, γ, ⟨hR2.sS, hR2.lt, hR2.mem, fun j t hj => ?_, by simpa using hR2.size, by simpa using hR2.msize, hR2.defers, hR2.own, hR2.fix, hR2.fr⟩, hS⟩
        by_cases hjk : k = j
        · subst hjk
          have hlt : k < st.t.length := (List.getElem?_eq_some_iff.1 hk).1
          simp only [List.getElem?_set_self (show k < (st.t.map (TV.map1 (T1.forget (q' ++ [(i', f')])))).length by simpa using hlt), Option.some.injEq] at hj
          subst hj
          have := hR2.tv k (TV.map1 (T1.freeze q' i' f' (.sl sz rs)) (.one (.so q' i' f' n))) (by simp only [List.getElem?_map, hk, Option.map_some])
          have e : (T1.so q' i' f' n).freeze q' i' f' (.sl sz rs) = .c (.sl sz rs) := if_pos ⟨rfl, rfl, rfl, by simp [fits, hn]⟩
          simp only [TV.map1, e] at this
          exact this
        · simp only [List.getElem?_set_ne hjk] at hj
          obtain ⟨t0, ht0, rfl⟩ := getElem?_map_some hj
          have := hR2.tv j (TV.map1 (T1.freeze q' i' f' (.sl sz rs)) t0) (by simp only [List.getElem?_map, ht0, Option.map_some])
          have key : ∀ t x, T1Val w S γ (T1.freeze q' i' f' (.sl sz rs) t) x → T1Val w S γ (T1.forget (q' ++ [(i', f')]) t) x := fun t x => freeze_forget
          cases t0 with
          | one t => exact key t _ this
          | agg l =>
            obtain ⟨xs, hx, hl⟩ := this
            refine ⟨xs, hx, by simpa using hl.1, fun m y z hy hz => ?_⟩
            obtain ⟨t, ht, rfl⟩ := getElem?_map_some hy
            exact key t z (hl.2 m _ z (by rw [List.getElem?_map, ht]; rfl) hz)
          | tup l =>
            obtain ⟨xs, hx, hl⟩ := this
            refine ⟨xs, hx, by simpa using hl.1, fun m y z hy hz => ?_⟩
            obtain ⟨t, ht, rfl⟩ := getElem?_map_some hy
            have := hl.2 m _ z (by rw [List.getElem?_map, ht]; rfl) hz
            cases t with
            | one t => exact key t z this
            | agg l2 =>
              obtain ⟨ys, hy2, hl2⟩ := this
              refine ⟨ys, hy2, by simpa using hl2.1, fun m2 y2 z2 hy3 hz3 => ?_⟩
              obtain ⟨t, ht, rfl⟩ := getElem?_map_some hy3
              exact key t z2 (hl2.2 m2 _ z2 (by rw [List.getElem?_map, ht]; rfl) hz3)
      · cases h
    · cases h
  · cases h

end
end Go.Mv

/- Arguments opened: what a value of a type is, as a list of cells that are only read. -/
namespace Go.Mv
open Go.RowKit

/-- Whatever memory holds as a value of type t is some y: its cells are told by e, and 'ok' holds of it. -/
def Opens (P : Program) (t : TypeId) {α : Type} (e : α → List C) (ok : α → Prop) : Prop :=
  ∀ (H : Type) (enc : TypeId × Value → H) (W : World) (fuel : Nat) (cs : List Value) (x : DataW H × List MemPlace), DataW.trod enc P W 0 (fun _ => true) true fuel t cs = some x → (∀ n ∈ x.1.weights P t, n ≤ 140737488351232) →
    ∃ y : α, RepFs W (fun b => b < W.heap.size) (e y) cs ∧ ok y

section
variable {P : Program} {t : TypeId}

theorem opens_string (ht : P.underlying t = some .string) : Opens P t (fun s : ByteArray => [sC s]) (fun s => s.size ≤ 140737488351232) := fun H enc W fuel cs x h hw => by
  obtain ⟨s, rfl, rfl, _⟩ := DataW.trod_string ht h
  exact ⟨s, .cons (.v rfl) .nil, by simpa [DataW.weights] using hw⟩

end
end Go.Mv

/- Models that many functions share: sizes, copies and comparisons of slices, element by element. -/
namespace Go.Mv
open Go.RowKit

section
variable {α : Type}

/-- A slice in the making: k elements stand, the others are zero. -/
def fill (en : α → List C) (z : List C) (xs : List α) (k : Nat) : Rows := (xs.take k).map en ++ List.replicate (xs.length - k) z

/-! ### What was frozen cell by cell, told plainly -/
end
/-! ### Structs held against one another -/
theorem eqVs_cons {k : EK} {ks : List EK} {xs ys : List Value} {b : Bool} (h : eqVs (k :: ks) xs ys = some b) : ∃ x xs' y ys' u v, xs = x :: xs' ∧ ys = y :: ys' ∧ eqV k x y = some u ∧ eqVs ks xs' ys' = some v ∧ b = (u && v) := by
  cases xs with
  | nil => cases ys <;> cases h
  | cons x xs => cases ys with
    | nil => cases h
    | cons y ys =>
      simp only [eqVs] at h
      split at h
      · rename_i u v h1 h2; cases h; exact ⟨x, xs, y, ys, u, v, rfl, rfl, h1, h2, rfl⟩
      · cases h
theorem eqV_int {k : IntKind} {x y : Value} {u : Bool} (h : eqV (.int k) x y = some u) : ∃ a b, x = .int k a ∧ y = .int k b ∧ u = (a == b) := by
  cases x <;> first | (cases h; done) | skip
  cases y <;> first | (cases h; done) | skip
  simp only [eqV] at h
  split at h
  · rename_i hc; obtain ⟨rfl, rfl⟩ := hc; cases h; exact ⟨_, _, rfl, rfl, rfl⟩
  · cases h
theorem eqV_str {x y : Value} {u : Bool} (h : eqV .str x y = some u) : ∃ a b, x = .string a ∧ y = .string b ∧ u = (a.toList == b.toList) := by
  cases x <;> first | (cases h; done) | skip
  cases y <;> first | (cases h; done) | skip
  simp only [eqV] at h
  cases h; exact ⟨_, _, rfl, rfl, rfl⟩

/-! ### A struct's cells as a slot tells them -/
end Go.Mv

/- The walk's rules for texts and bytes that terms tell: joined, cut, looked into; bytes appended, and turned to a text. -/
namespace Go.Mv
open Go.RowKit

section
variable {P : Program} {Ty : Types} {B : Base} {S : Nat → Prop} {γ : Path → Option Loc} {st : St} {a : Act} {w : World} {Q : AQ} {ops : Array Oper}

/-- An operation that looks, with what is to be shown for it. -/
def stepQ (Ty : Types) (st : St) : Op → Option (Prop × TV)
  | .binOp .add t x y _ => match Ty t with
    | none => none
    | some _ => match evT st x, evT st y with
      | .one (.c (.v (.string a))), .one (.c (.v (.string b))) => some (a.size + b.size ≤ 140737488355328, .one (.c (.v (.string (a ++ b)))))
      | _, _ => none
  | .index t x ix => match Ty t with
    | none => none
    | some i => match i.k with
      | .string => match strT (evT st x), intT (evT st ix) with
        | some s, some n => some (0 ≤ n ∧ n < s.size, .one (.c (.v (.int .u8 (byteAt s n)))))
        | _, _ => none
      | _ => none
  | .slice t x lo hi none => match Ty t with
    | none => none
    | some i => match i.k with
      | .string => match evT st x with
        | .one (.c (.v (.string s))) => match bndT 0 (lo.map (evT st)), bndT s.size (hi.map (evT st)) with
          | some l, some h => some (0 ≤ l ∧ l ≤ h ∧ h ≤ s.size, .one (.c (.v (.string (s.extract l.toNat h.toNat)))))
          | _, _ => none
        | _ => none
      | .slice e => match Ty e with
        | none => none
        | some ei => match evT st x with
          | .one (.c (.sl sz rows)) => match bndT 0 (lo.map (evT st)), bndT rows.length (hi.map (evT st)) with
            | some l, some h => some (0 ≤ l ∧ l ≤ h ∧ h ≤ rows.length ∧ rows.all (fun r => r.length == ei.size) = true, .one (.c (.sl sz ((rows.take h.toNat).drop l.toNat))))
            | _, _ => none
          | _ => none
      | _ => none
  | .binOp .rem t x y _ => match Ty t with
    | none => none
    | some _ => match evT st x, evT st y with
      | .one (.c (.v (.int k a))), .one (.c (.v (.int k' b))) => if k = k' then some (b ≠ 0, .one (.c (.v (.int k (a.tmod b))))) else none
      | _, _ => none
  | .binOp .quo t x y _ => match Ty t with
    | none => none
    | some _ => match evT st x, evT st y with
      | .one (.c (.v (.int k a))), .one (.c (.v (.int k' b))) => if k = k' then some (b ≠ 0, .one (.c (.v (.int k (k.wrap (a.tdiv b)))))) else none
      | _, _ => none
  | _ => none

theorem stepQ_P {op : Op} {c : Prop} {tv : TV} (h : stepQ Ty st op = some (c, tv)) (hc : c) : stepP Ty st op = some tv := by
  unfold stepQ at h
  split at h
  · rename_i t x y o
    split at h
    · cases h
    rename_i i hi
    split at h
    · rename_i a b ha hb
      cases h
      simp only [stepP, hi, ha, hb, binT, binV, binS]
      rw [if_pos hc]
      rfl
    · cases h
  · rename_i t x ix
    split at h
    · cases h
    rename_i i hi
    split at h
    · rename_i hk
      split at h
      · rename_i s n hs hn
        cases h
        simp only [stepP, stepIndex, hi, hk, hs, hn]
        rw [if_pos hc]
      · cases h
    · cases h
  · rename_i t x lo hi'
    split at h
    · cases h
    rename_i i hi
    split at h
    · rename_i hk
      split at h
      · rename_i s hx
        split at h
        · rename_i l hh hl hhh
          cases h
          simp only [stepP, stepSlice, hi, hk, hx, sliceT, hl, hhh]
          rw [if_pos hc]
        · cases h
      · cases h
    · rename_i e hk
      split at h
      · cases h
      rename_i ei hei
      split at h
      · rename_i sz rows hx
        split at h
        · rename_i l hh hl hhh
          cases h
          simp only [stepP, stepSlice, hi, hk, hei, hx, sliceT, hl, hhh]
          rw [if_pos hc]
        · cases h
      · cases h
    · cases h
  · rename_i t x y o
    split at h
    · cases h
    rename_i i hi
    split at h
    · rename_i k a k' b ha hb
      split at h
      · rename_i hk
        subst hk
        cases h
        have e : binI .rem k a b = some (.int k (a.tmod b)) := if_neg hc
        simp only [stepP, hi, ha, hb, binT, binV, isSh, e, if_true, Bool.false_eq_true, if_false]
        rfl
      · cases h
    · cases h
  · rename_i t x y o
    split at h
    · cases h
    rename_i i hi
    split at h
    · rename_i k a k' b ha hb
      split at h
      · rename_i hk
        subst hk
        cases h
        have e : binI .quo k a b = some (.int k (k.wrap (a.tdiv b))) := if_neg hc
        simp only [stepP, hi, ha, hb, binT, binV, isSh, e, if_true, Bool.false_eq_true, if_false]
        rfl
      · cases h
    · cases h
  · cases h

def lookQ (Ty : Types) (ops : Array Oper) (st : St) (i : Nat) : Option (Nat × Prop × TV) :=
  match ops[i]? with
  | none => none
  | some o => match wantT ops st o, o.dst with
    | some true, some d => (stepQ Ty st o.op).map fun p => (d, p)
    | _, _ => none

theorem lookQ_spec {i d : Nat} {c : Prop} {tv : TV} (h : lookQ Ty ops st i = some (d, c, tv)) (hc : c) :
    ∃ o, ops[i]? = some o ∧ wantT ops st o = some true ∧ o.dst = some d ∧ stepP Ty st o.op = some tv := by
  unfold lookQ at h
  split at h
  · cases h
  rename_i o ho
  split at h
  · rename_i d' hw hd
    cases hq : stepQ Ty st o.op with
    | none => rw [hq] at h; cases h
    | some p =>
      rw [hq] at h
      cases h
      exact ⟨o, ho, hw, hd, stepQ_P hq hc⟩
  · cases h

section
variable {N : List Nat} {fuel : Nat} {listed : Array Bool}

end

/-! ### Appended to rows that a term tells -/
def appArgs (Ty : Types) (ops : Array Oper) (st : St) (i : Nat) : Option (Nat × Option (Path × Nat × Nat) × Rows × Nat × Nat × TV × Nat) :=
  match ops[i]? with
  | none => none
  | some o => match wantT ops st o, o.dst, o.op with
    | some true, some d, .call { callee := .builtin .append, args, argTypes } => match args.toList, argTypes.toList with
      | [s, x], [t, xt] => match Ty t with
        | none => none
        | some ti => match ti.k with
          | .slice e => match Ty e with
            | none => none
            | some ei => if isSlStr Ty xt = true ∧ 0 < ei.bytes ∧ ei.zero.cells.size = ei.size then
                match evT st s with
                | .one (.so q i f n) => match getR st.m q with
                  | none => none
                  | some rs => match at2 rs i f with
                    | some (.sl sz rows) => if sz = ei.size then some (d, some (q, i, f), rows, n, ei.bytes, evT st x, ei.size) else none
                    | _ => none
                | .one (.c (.v (.slice none 0 0))) => some (d, none, [], 0, ei.bytes, evT st x, ei.size)
                | _ => none
              else none
          | _ => none
      | _, _ => none
    | _, _, _ => none

/-- What is told behind an append: rows' in the slot's own root. -/
def appSt (st : St) (d size : Nat) (src : Option (Path × Nat × Nat)) (rows' : Rows) : St :=
  match src with
  | none => { t := st.t.map (TV.map1 (T1.forget [(d, 0)])), m := set2 st.m d 0 (.sl size rows') }
  | some (q, i, f) => { t := (st.t.map (TV.map1 (T1.forget (q ++ [(i, f)])))).map (TV.map1 (T1.forget [(d, 0)])), m := set2 (killM st.m q i f) d 0 (.sl size rows') }
def appRoom (st : St) (d : Nat) (src : Option (Path × Nat × Nat)) : Bool :=
  match src with
  | none => (at2 st.m d 0).isSome
  | some (q, i, f) => (at2 (killM st.m q i f) d 0).isSome

theorem append_step {np : Nat} {i d n n' bytes size : Nat} {src : Option (Path × Nat × Nat)} {rows new rows' : Rows} {tx : TV} (h : appArgs Ty ops st i = some (d, src, rows, n, bytes, tx, size)) (happ : appRows st.m size tx = some (new, []))
    (hn : rows.length = n) (hb : (rows.length + new.length) * bytes ≤ 140737488355328) (hnp : (decide (np ≤ d) && appRoom st d src) = true) (hrows : rows ++ new = rows') (hn' : rows.length + new.length = n') :
    ∃ o, ops[i]? = some o ∧ wantT ops st o = some true ∧ step Ty np st o = some (St.put (appSt st d size src rows') (some d) (.one (.so [] d 0 n'))) := by
  unfold appArgs at h
  split at h
  · cases h
  rename_i o ho
  split at h
  · rename_i d' args argTypes hw hd hop
    split at h
    · rename_i s x t xt hargs hts
      split at h
      · cases h
      rename_i ti hti
      split at h
      · rename_i e hk
        split at h
        · cases h
        rename_i ei hei
        split at h
        · rename_i hc
          simp only [Bool.and_eq_true, decide_eq_true_eq] at hnp
          split at h
          · rename_i q i' f n0 hs
            split at h
            · cases h
            rename_i rs hg
            split at h
            · rename_i sz rows0 hat
              split at h
              · rename_i hsz
                cases h
                subst hsz hrows hn'
                refine ⟨o, ho, hw, ?_⟩
                unfold step
                rw [hop]
                simp only [hargs, hts, hd, stepApp, hti, hk, hei, hs, appTo, hg, hat, happ]
                rw [if_pos hn]
                simp only
                rw [if_pos ⟨hc.1, hc.2.1, hb, hnp.1, hc.2.2⟩]
                have hroom : (at2 (killM st.m q i' f) d 0).isSome = true := hnp.2
                rw [if_pos ⟨hroom, trivial⟩]
                simp only [List.map_nil, adoptL, Option.map_some, appSt]
              · cases h
            · cases h
          · rename_i hs
            cases h
            subst hrows hn'
            refine ⟨o, ho, hw, ?_⟩
            unfold step
            rw [hop]
            simp only [hargs, hts, hd, stepApp, hti, hk, hei, hs, appTo, happ]
            rw [if_pos ⟨hc.1, hc.2.1, hb, hnp.1, hc.2.2⟩]
            have hroom : (at2 st.m d 0).isSome = true := hnp.2
            rw [if_pos hroom]
            simp only [List.map_nil, adoptL, Option.map_some, appSt, List.nil_append, List.length_nil, Nat.zero_add]
          · cases h
        · cases h
      · cases h
    · cases h
  · cases h

theorem appRows_fz {m : Rows} {size sz : Nat} {rows : Rows} (h : rows.all (fun r => r.length == size) = true) : appRows m size (.one (.c (.sl sz rows))) = some (rows.map (List.map frzC), []) := by
  simp [appRows, srcRows, rowsOf, h]

/-! ### A root under another name -/
def renameR (np : Nat) (st : St) (d d' k : Nat) : Option St :=
  if np ≤ d ∧ np ≤ d' ∧ d ≠ d' then
    match st.t[k]?, at2 st.m d 0, at2 st.m d' 0 with
    | some (.one (.so [] d0 0 n)), some c, some _ => if d0 = d then
        some { t := ((st.t.map (TV.map1 (T1.forget [(d, 0)]))).map (TV.map1 (T1.forget [(d', 0)]))).set k (.one (.so [] d' 0 n)), m := set2 (set2 st.m d 0 .dead) d' 0 c }
      else none
    | _, _, _ => none
  else none

theorem rename_rel {d d' k : Nat} {st' : St} (hR : RelE B st a w) (h : renameR B.np st d d' k = some st') : RelE B st' a w := by
  obtain ⟨S, γ, hR, hSn⟩ := hR
  unfold renameR at h
  split at h
  · rename_i hnp
    obtain ⟨hd1, hd2, hne⟩ := hnp
    split at h
    · rename_i d0 n c c1 hk hc hc1
      split at h
      · rename_i hdd
        subst hdd
        cases h
        obtain ⟨v, hv⟩ := hR.mem.head d0 0 c hc
        have hdet : Det w S c (fun s => γ ((d0, 0) :: s)) v := hR.mem.det (q := []) rfl hc hv
        have hkill : MemOK w S (set2 st.m d0 0 .dead) (putG γ [] d0 0 fun _ => none) := hR.mem.kill (q := []) rfl hc
        have hc2 : at2 (set2 st.m d0 0 .dead) d' 0 = some c1 := by rw [at2_set2_ne (by simp [hne])]; exact hc1
        have hR1 : Rel B S (putG γ [] d0 0 fun _ => none) { t := st.t.map (TV.map1 (T1.forget [(d0, 0)])), m := set2 st.m d0 0 .dead } a w :=
          hR.putM (q := []) (x := .dead) (δ := fun _ => none) hkill rfl hc (fun _ _ => rfl) (Nat.le_refl _) hR.fr (fun s rs l hg => by simp [getX, C.rows] at hg) (fun _ _ hd => absurd rfl hd)
        have hap : Apart (set2 st.m d0 0 .dead) (putG γ [] d0 0 fun _ => none) c (fun s => γ ((d0, 0) :: s)) := fun p rs l s rs' l' hp hr hl hs hl' hb => by
          rcases @getR_put st.m st.m [] d0 0 .dead c rfl hc p rs hr with ⟨s2, _, hg2⟩ | ⟨hn, rs0, hg0, _⟩
          · simp [getX, C.rows] at hg2
          · rw [putG_not hn] at hl
            have := hR.mem.inj p ((d0, 0) :: s) rs0 rs' l l' hp (by simp) hg0 (by have := getX_of (q := []) (mem := st.m) rfl hc s; rw [List.nil_append] at this; rw [this]; exact hs) hl hl' hb
            exact hn (this ▸ ⟨s, by simp⟩)
        have hput := hkill.put_head hdet hap hc2
        have hR2 := hR1.putM (q := []) hput rfl hc2 (fun _ _ => rfl) (Nat.le_refl _) hR1.fr (fun s rs l hs hl => hR.own ((d0, 0) :: s) rs l (by simp) (by have := getX_of (q := []) (mem := st.m) rfl hc s; rw [List.nil_append] at this; rw [this]; exact hs) hl)
          (fun _ hlt => absurd hlt (by omega))
        refine ⟨S, _, ⟨hR2.sS, hR2.lt, hR2.mem, fun j t hj => ?_, by simpa using hR2.size, by simpa [setR] using hR2.msize, hR2.defers, hR2.own, hR2.fix, hR2.fr⟩, hSn⟩
        by_cases hjk : k = j
        · subst hjk
          have hlt : k < st.t.length := (List.getElem?_eq_some_iff.1 hk).1
          simp only [List.getElem?_set_self (show k < (((st.t.map (TV.map1 (T1.forget [(d0, 0)]))).map (TV.map1 (T1.forget [(d', 0)])))).length by simpa using hlt), Option.some.injEq] at hj
          subst hj
          have h0 := hR.tv k _ hk
          have e : putG (putG γ [] d0 0 fun _ => none) [] d' 0 (fun s => γ ((d0, 0) :: s)) ([] ++ [(d', 0)]) = γ ([] ++ [(d0, 0)]) := by
            have := putG_at (putG γ [] d0 0 fun _ => none) [] d' 0 (fun s => γ ((d0, 0) :: s)) []
            simpa using this
          show T1Val w S _ (.so [] d' 0 n) _
          have h1 : T1Val w S γ (.so [] d0 0 n) (a.tmps.getD k undef) := h0
          simp only [T1Val] at h1 ⊢
          rw [e]
          exact h1
        · simp only [List.getElem?_set_ne hjk] at hj
          exact hR2.tv j t hj
      · cases h
    · cases h
  · cases h

/-! ### Bytes turned to a text -/
def strArgs (Ty : Types) (ops : Array Oper) (st : St) (i : Nat) : Option (Nat × Rows × Nat) :=
  match ops[i]? with
  | none => none
  | some o => match wantT ops st o, o.dst, o.op with
    | some true, some d, .convert src dst x => match Ty src, Ty dst with
      | some si, some di => match si.k, di.k with
        | .slice e, .string => if isU8 Ty e then match evT st x with
            | .one (.so q i f n) => (getR st.m (q ++ [(i, f)])).map fun rows => (d, rows, n)
            | .one (.c (.sl _ rows)) => some (d, rows, rows.length)
            | _ => none
          else none
        | _, _ => none
      | _, _ => none
    | _, _, _ => none

theorem numsOf_bytes (s : List UInt8) : numsOf (s.map fun b => [.v (.int .u8 b.toNat)]) = some (s.map fun b => (b.toNat : Int)) := by
  induction s with
  | nil => rfl
  | cons b s ih => simp only [List.map_cons, numsOf, ih, Option.map_some]

theorem strOfNums_bytes (s : ByteArray) : strOfNums (s.data.toList.map fun b => (b.toNat : Int)) = s := by
  unfold strOfNums
  apply ByteArray.ext
  have : s.data.toList.map ((fun n : Int => UInt8.ofNat n.toNat) ∘ fun b : UInt8 => (b.toNat : Int)) = s.data.toList := by
    rw [List.map_congr_left (g := id) fun b _ => by simp, List.map_id]
  simp only [List.map_map, this, Array.toArray_toList]

theorem ao_string {i d n : Nat} {rows : Rows} {s : ByteArray} {l : List Nat} {st1 : St} (ks : List Nat) (hTy : TyOK P Ty) (h : strArgs Ty ops st i = some (d, rows, n)) (hn : rows.length = n) (hs : rows = byteRows s)
    (hst : (st.put (some d) (sV s)).keep ks = st1) (rest : AOps P B ops l Q st1) : AOps P B ops (i :: l) Q st := by
  unfold strArgs at h
  split at h
  · cases h
  rename_i o ho
  split at h
  · rename_i d' src dst x hw hd hop
    split at h
    · rename_i si di hsi hdi
      split at h
      · rename_i e hk1 hk2
        split at h
        · rename_i hu8
          have key : ∀ (b : Bool), rowsOf st.m (evT st x) = some (b, rows) → AOps P B ops (i :: l) Q st := fun b hr => by
            refine ao_one (o := o) (st' := st.put (some d') (sV s)) ks hTy ho hw ?_ (by
              have : d' = d := by
                split at h
                · rename_i q i' f n0 hx
                  cases hg : getR st.m (q ++ [(i', f)]) with
                  | none => rw [hg] at h; cases h
                  | some r => rw [hg] at h; cases h; rfl
                · cases h; rfl
                · cases h
              rw [this]; exact hst) rest
            unfold step
            rw [hop]
            simp only [stepP, stepConv, hsi, hdi, hk1, hk2, hd, stepA, hu8, if_true, hr, hs, byteRows, numsOf_bytes, Option.map_some, strOfNums_bytes]
          split at h
          · rename_i q i' f n0 hx
            cases hg : getR st.m (q ++ [(i', f)]) with
            | none => rw [hg] at h; cases h
            | some r =>
              rw [hg] at h
              simp only [Option.map_some, Option.some.injEq, Prod.mk.injEq] at h
              obtain ⟨_, rfl, rfl⟩ := h
              exact key false (by simp only [hx, rowsOf, hg]; rw [if_pos hn])
          · rename_i sz r hx
            simp only [Option.some.injEq, Prod.mk.injEq] at h
            obtain ⟨_, rfl, rfl⟩ := h
            exact key true (by simp only [hx, rowsOf])
          · cases h
        · cases h
      · cases h
    · cases h
  · cases h


/-! ### What is told at an end may be told otherwise -/
def Imp (B : Base) (s s1 : St) : Prop := ∀ a w, RelE B s a w → RelE B s1 a w

def impQ (B : Base) (st1 : St) : AQ
  | .normal, s => Imp B s st1
  | _, _ => False

theorem imp_done {s s1 : St} (h : s = s1) : Imp B s s1 := fun _ _ hR => h ▸ hR
theorem imp_freezeAt {s s1 s2 : St} (hF : ∀ b o, ¬ B.F b o) (q : Path) (i f k : Nat) (ks : List Nat) {n : Nat} {rs : Rows} (h : (freezeAt B.np s q i f k).map (fun p => (p.1, p.2.1, p.2.2.keep ks)) = some (n, rs, s1)) (hn : rs.length = n)
    (r : Imp B s1 s2) : Imp B s s2 := fun a w hR => by
  cases hz : freezeAt B.np s q i f k with
  | none => rw [hz] at h; cases h
  | some p =>
    obtain ⟨n2, rs2, st2⟩ := p
    rw [hz] at h
    simp only [Option.map_some, Option.some.injEq, Prod.mk.injEq] at h
    obtain ⟨rfl, rfl, rfl⟩ := h
    exact r a w (keep_rel ks (freezeAt_rel hF hR hz hn))
theorem imp_rename {s s1 s2 : St} (d d' k : Nat) (ks : List Nat) (h : (renameR B.np s d d' k).map (St.keep ks) = some s1) (r : Imp B s1 s2) : Imp B s s2 := fun a w hR => by
  cases hr : renameR B.np s d d' k with
  | none => rw [hr] at h; cases h
  | some st2 => rw [hr] at h; cases h; exact r a w (keep_rel ks (rename_rel hR hr))

end

/-! ### Bytes -/
/-- The byte that a number tells. -/
def byteB (n : Int) : ByteArray := ⟨#[UInt8.ofNat n.toNat]⟩
theorem byteB_size (n : Int) : (byteB n).size = 1 := rfl
end Go.Mv

/- Structs held against one another, structs within structs too; the library's Join over texts that are only read. -/
namespace Go.Mv
open Go.RowKit

def EqD (P : Program) (d : Nat) (t : TypeId) (ks : List EK) : Prop :=
  ∀ (w : World) (xs ys : List Value) (b : Bool), eqVs ks xs ys = some b → (Op.equalIn d t (.agg xs.toArray) (.agg ys.toArray)).run P w = .ok b w

def EqFs (P : Program) (d : Nat) (fs : List Field) (o : Nat) (ks : List EK) : Prop :=
  ∀ (w : World) (xs ys : List Value) (b : Bool), eqVs ks (xs.drop o) (ys.drop o) = some b → (Op.eqFields d xs.toArray ys.toArray fs).run P w = .ok b w

section
variable {P : Program} {d o : Nat} {f : Field} {fs : List Field} {ks ks1 : List EK} {t : TypeId}

theorem eqFs_nil : EqFs P d [] o [] := fun w xs ys b h => by
  cases hx : xs.drop o with
  | cons x l => rw [hx] at h; cases ys.drop o <;> cases h
  | nil =>
    rw [hx] at h
    cases hy : ys.drop o with
    | cons y l => rw [hy] at h; cases h
    | nil => rw [hy] at h; cases h; rfl

theorem drop_head {xs l : List Value} {x : Value} (h : xs.drop o = x :: l) : xs[o]? = some x ∧ xs.drop (o + 1) = l := by
  refine ⟨?_, ?_⟩
  · have := List.getElem?_drop (xs := xs) (i := o) (j := 0)
    rw [h] at this
    simpa using this.symm
  · rw [← List.drop_drop, h]
    rfl

theorem eqFs_leaf {k : EK} (hn : f.name ≠ "_") (ho : f.offset = o) (ha : ∀ w, (isAgg f.type).run P w = .ok false w) (hk : ∀ w a b u, eqV k a b = some u → (Op.equalIn d f.type a b).run P w = .ok u w) (r : EqFs P d fs (o + 1) ks) : EqFs P d (f :: fs) o (k :: ks) := fun w xs ys b h => by
  obtain ⟨x, xs', y, ys', u, v, hx, hy, h1, h2, rfl⟩ := eqVs_cons h
  obtain ⟨gx, rx⟩ := drop_head hx
  obtain ⟨gy, ry⟩ := drop_head hy
  have hr := r w xs ys v (by rw [rx, ry]; exact h2)
  subst ho
  simp only [Op.eqFields, if_pos hn, Sem.run_bind, part, ha, Result.andThen_ok, Bool.false_eq_true, if_false, List.getElem?_toArray, gx, gy, Sem.run_pure, hk w x y u h1]
  cases u
  · simp
  · simpa using hr

theorem eqVs_append : ∀ {ks1 ks : List EK} {xs ys : List Value} {b : Bool}, eqVs (ks1 ++ ks) xs ys = some b →
    ∃ u v, eqVs ks1 (xs.take ks1.length) (ys.take ks1.length) = some u ∧ eqVs ks (xs.drop ks1.length) (ys.drop ks1.length) = some v ∧ b = (u && v)
  | [], ks, xs, ys, b, h => ⟨true, b, rfl, h, by simp⟩
  | k :: ks1, ks, xs, ys, b, h => by
    obtain ⟨x, xs', y, ys', u, v, rfl, rfl, h1, h2, rfl⟩ := eqVs_cons (show eqVs (k :: (ks1 ++ ks)) xs ys = some b from h)
    obtain ⟨u2, v2, g1, g2, rfl⟩ := eqVs_append h2
    exact ⟨u && u2, v2, by simp only [List.length_cons, List.take_succ_cons, eqVs, h1, g1], by simpa using g2, by rw [Bool.and_assoc]⟩

theorem eqFs_struct {n : Nat} (hn : f.name ≠ "_") (ho : f.offset = o) (ha : ∀ w, (isAgg f.type).run P w = .ok true w) (hs : ∀ w, (sizeOf f.type).run P w = .ok n w) (hl : ks1.length = n) (h1 : EqD P d f.type ks1) {ks' : List EK} (hk : ks1 ++ ks = ks') (r : EqFs P d fs (o + n) ks) :
    EqFs P d (f :: fs) o ks' := fun w xs ys b h => by
  subst hk
  obtain ⟨u, v, g1, g2, rfl⟩ := eqVs_append h
  subst ho hl
  have hr := r w xs ys v (by rw [List.drop_drop, List.drop_drop] at g2; exact g2)
  have hx : ∀ l : List Value, l.toArray.extract f.offset (f.offset + ks1.length) = ((l.drop f.offset).take ks1.length).toArray := fun l => by
    simp [List.extract_toArray]
  have he := h1 w _ _ u g1
  simp only [Op.eqFields, if_pos hn, Sem.run_bind, part, ha, hs, Result.andThen_ok, if_true, Sem.run_pure, hx, he]
  cases u
  · simp
  · simpa using hr

theorem eqD_struct (ht : P.underlying t = some (.struct (P.fieldsOf t))) (hp : P.stoodInHeld t = false) (hfs : (P.fieldsOf t).toList = fs) (h : EqFs P d fs 0 ks) : EqD P (d + 1) t ks := fun w xs ys b hb => by
  rw [run_equalIn_struct w d t _ _ ht hp, hfs]
  exact h w xs ys b (by simpa using hb)

theorem eqOK_of (hg : P.eqGuardType P.depth t = false) (h : EqD P 10000 t ks) : EqOK P t ks := ⟨hg, fun w xs ys b hb => h w xs ys b hb⟩

theorem eqK_int {k : IntKind} (h : P.underlying t = some (.int k)) (w : World) (a b : Value) (u : Bool) (hu : eqV (.int k) a b = some u) : (Op.equalIn (d + 1) t a b).run P w = .ok u w := by
  obtain ⟨x, y, rfl, rfl, rfl⟩ := eqV_int hu
  exact run_equalIn_int w d t k k x y h
theorem eqK_str (h : P.underlying t = some .string) (w : World) (a b : Value) (u : Bool) (hu : eqV .str a b = some u) : (Op.equalIn (d + 1) t a b).run P w = .ok u w := by
  obtain ⟨x, y, rfl, rfl, rfl⟩ := eqV_str hu
  exact run_equalIn_string w d t x y h
theorem eqK_bool (h : P.underlying t = some .bool) (w : World) (a b : Value) (u : Bool) (hu : eqV .bool a b = some u) : (Op.equalIn (d + 1) t a b).run P w = .ok u w := by
  cases a <;> cases b <;> simp only [eqV] at hu <;> first | contradiction | skip
  cases hu
  exact run_equalIn_bool' w d t _ _ h
end

/-! ### The library's Join -/
def joinB (xs : List ByteArray) (sep : ByteArray) : ByteArray := ⟨(Lib.join (xs.map (·.data.toList)) sep.data.toList).toArray⟩

theorem memOK_nil {w : World} {S : Nat → Prop} : MemOK w S [[]] (fun _ => none) := by
  have h : ∀ q rows, q ≠ [] → getR [[]] q = some rows → False := fun q rows hq hr => by
    cases q with
    | nil => exact hq rfl
    | cons x q =>
      obtain ⟨i, f⟩ := x
      simp only [getR, at2] at hr
      cases i <;> simp at hr
  exact ⟨fun q rows hq hr => (h q rows hq hr).elim, fun q rows l i f c hq hr => (h q rows hq hr).elim, fun i f c hc => by unfold at2 at hc; cases i <;> simp at hc, fun q q' rows rows' l l' hq hq' hr => (h q rows hq hr).elim⟩

theorem ret_plain {w w' : World} {S : Nat → Prop} {u : Value} (hS : ∀ b, S b → b < w.heap.size) (hb : Below w.heap.size w w') (hp : plain u = true) : Ret w S w' (.one (.c (.v u))) [] u :=
  ⟨hb, S, fun _ => none, fun _ h => h, fun _ h => .inl h, fun b h => Nat.lt_of_lt_of_le (hS b h) hb.size, memOK_nil, .v hp, fun q rows l _ _ hl => by cases hl⟩

theorem flat_single : ∀ (xs : List ByteArray), (xs.map fun s => [sC s]).flatten = xs.map fun s => sC s
  | [] => rfl
  | x :: xs => by simp only [List.map_cons, List.flatten_cons, flat_single xs, List.singleton_append]

theorem join_call {P : Program} {f : FuncId} (h0 : ∀ (a : Option Addr) (c : Nat) (sep : ByteArray) (w : World), Calls P f #[.slice a 0 c, .string sep] w fun e w' => e = .returned (.string ⟨#[]⟩) ∧ w' = w)
    (h1 : ∀ (bk o c : Nat) (xs : List ByteArray) (sep : ByteArray) (w : World), (∀ (j : Nat) x, xs[j]? = some x → w.cell? ⟨bk, o + j, none⟩ = some (.string x)) → bk < w.heap.size → xs.length ≤ 140737488355328 → xs.length ≤ c →
      (Lib.join (xs.map (·.data.toList)) sep.data.toList).length ≤ 140737488355328 → Calls P f #[.slice (some ⟨bk, o, none⟩) xs.length c, .string sep] w fun e w' => e = .returned (.string ⟨(Lib.join (xs.map (·.data.toList)) sep.data.toList).toArray⟩) ∧ Below w.heap.size w w')
    (xs : List ByteArray) (sep : ByteArray) (hN : xs.length ≤ 140737488355328) (hL : (joinB xs sep).size ≤ 140737488355328) : CallOK P f [.one (.c (.sl 1 (xs.map fun s => [sC s]))), sV sep] (sV (joinB xs sep)) [] := fun w S vals hS hall => by
  obtain ⟨v1, vs, rfl, hv1, hall⟩ := hall.uncons
  obtain ⟨v2, vs2, rfl, hv2, hall⟩ := hall.uncons
  have e0 : vs2 = [] := List.eq_nil_of_length_eq_zero (by rw [← hall.1]; rfl)
  subst e0
  have e2 := one_v hv2
  subst e2
  have hr : RepF w S (.sl 1 (xs.map fun s => [sC s])) v1 := hv1
  have hflat : (xs.map fun s => [sC s]).flatten = xs.map fun s => sC s := by
    exact flat_single xs
  generalize hrows : (xs.map fun s => [sC s]) = rows at hr hflat
  have hlen : rows.length = xs.length := by rw [← hrows]; simp
  cases hr with
  | nil =>
    have : xs = [] := List.eq_nil_of_length_eq_zero (by rw [← hlen]; rfl)
    subst this
    exact (h0 _ _ sep w).mono fun e w' ⟨he, hw⟩ => ⟨_, he, by subst hw; exact ret_plain hS (Below.refl _ _) rfl⟩
  | sl hb hrow hs hc hl =>
    rename_i b off cap vals
    rw [hflat] at hs
    rw [hlen]
    refine (h1 b off cap xs sep w (fun j x hj => ?_) (hS _ hb) hN (by omega) (by simpa [joinB, ByteArray.size] using hL)).mono fun e w' ⟨he, hw⟩ => ⟨_, he, ret_plain hS hw rfl⟩
    obtain ⟨y, hy, hyr⟩ := hs.get (k := j) (c := sC x) (by simp [hj])
    have : y = .string x := one_v (γ := fun _ => none) (show TVVal w S (fun _ => none) (sV x) y from hyr)
    rw [← this]
    exact hc j y hy

theorem joinB_one (x sep : ByteArray) : joinB [x] sep = x := by
  apply ByteArray.ext
  simp [joinB, Lib.join_one]
theorem joinB_cons (x y : ByteArray) (r : List ByteArray) (sep : ByteArray) : joinB (x :: y :: r) sep = (x ++ sep) ++ joinB (y :: r) sep := by
  apply ByteArray.ext
  simp [joinB, Lib.join_cons, Lib.joinTail]
/-- Joined from the left: what is there, then a separator and the next. -/
def foldJ (sep : ByteArray) : List ByteArray → ByteArray → ByteArray
  | [], o => o
  | x :: xs, o => foldJ sep xs ((o ++ sep) ++ x)
theorem foldJ_append (sep : ByteArray) : ∀ (xs : List ByteArray) (a o : ByteArray), foldJ sep xs (a ++ o) = a ++ foldJ sep xs o
  | [], _, _ => rfl
  | x :: xs, a, o => by rw [foldJ, foldJ, ByteArray.append_assoc, ByteArray.append_assoc, foldJ_append sep xs a, ByteArray.append_assoc]
theorem joinB_fold (sep : ByteArray) : ∀ (xs : List ByteArray) (x : ByteArray), joinB (x :: xs) sep = foldJ sep xs x
  | [], x => joinB_one x sep
  | y :: xs, x => by rw [joinB_cons, joinB_fold sep xs y, foldJ, foldJ_append]
end Go.Mv
