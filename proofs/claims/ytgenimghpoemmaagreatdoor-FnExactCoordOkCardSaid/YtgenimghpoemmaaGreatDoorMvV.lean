/- Further rules of the walk over what is told; whatever the program and the state. -/
import Derived.Test.YtgenimghpoemmaaGreatDoorMvIV
set_option linter.unusedVariables false
set_option linter.unusedSimpArgs false
namespace Go.Mv
open Go.RowKit
section
variable {P : Program} {Ty : Types} {B : da} {S : Nat -> Prop} {γ : Path -> Option Loc} {st : St} {a : Act} {w : World} {Q : AQ} {ops : Array Oper}
def SI (ops : Array Oper) (st : St) (i : Nat) : Option (Nat × Op) :=
 match ops[i]? with
 | none => none
 | some o => match dm ops st o, o.dst with
  | some true, some d => some (d, o.op)
  | _, _ => none
theorem vd {i d : Nat} {op : Op} (h : SI ops st i = some (d, op)) : ∃ o, ops[i]? = some o /\ dm ops st o = some true /\ o.dst = some d /\ o.op = op := by
 unfold SI at h
 split at h
 ·cases h
 ·rename_i o ho
  split at h
  ·rename_i d' hw hd
   cases h
   exact ⟨o, ho, hw, hd, rfl⟩
  ·cases h
def Gk (Ty : Types) (st : St) : Op -> Option (Nat × Bool × Path × Nat × Nat × Rows)
 | .load t x => match Ty t with
  | none => none
  | some ti => match evT st x with
   | .one (.pl p n f) => match ay st.m p with
    | none => none
    | some rows => if p.isEmpty then none else some (ti.size, ti.k.agg, p, n, f, rows)
   | _ => none
 | _ => none
theorem Hj {op : Op} {size n f : Nat} {agg : Bool} {p : Path} {rows : Rows} {tv : TV} (row : List C) (h : Gk Ty st op = some (size, agg, p, n, f, rows)) (hr : rows[n]? = some row) (hl : Nat.ble (f + size) row.length = true)
  (htv : XV agg (loadT p n f ((row.drop f).take size)) = some tv) : dR Ty st op = some tv := by
 unfold Gk at h
 split at h
 ·rename_i t x
  split at h
  ·cases h
  ·rename_i ti hti
   split at h
   ·rename_i p' n' f' hx
    split at h
    ·cases h
    ·rename_i rows' hg
     split at h
     ·cases h
     ·rename_i hp
      cases h
      have hle : f + ti.size <= row.length := Nat.le_of_ble_eq_true hl
      simp only [dR, rR, hti, hx, Bz, hp, Bool.false_eq_true, if_false, Zs, hg, hr, if_pos hle, Option.map_some, Option.bind_some]
      exact htv
   ·cases h
 ·cases h
def MR (Ty : Types) (st : St) : Op -> Option (Path × Nat × Nat × Int × Int × Rows)
 | .slice t x lo hi none => match Ty t with
  | none => none
  | some ti => match ti.k with
   | .slice e => match Ty e, evT st x with
    | some ei, .one (.so q i f n) => match HP 0 (lo.map (evT st)), HP n (hi.map (evT st)), ay st.m (q ++ [(i, f)]) with
     | some l, some h, some rows => some (q ++ [(i, f)], n, ei.size, l, h, rows)
     | _, _, _ => none
    | _, _ => none
   | _ => none
 | _ => none
theorem Tw {op : Op} {p : Path} {n size : Nat} {l h : Int} {rows : Rows} (hA : MR Ty st op = some (p, n, size, l, h, rows)) (c : 0 <= l /\ l <= h /\ h <= n) (hn : h <= rows.length) (hrow : ∀ r ∈ rows, r.length = size) :
  dR Ty st op = some (.one (.sp p l.toNat (h - l).toNat)) := by
 unfold MR at hA
 split at hA
 ·rename_i t x lo hi
  split at hA
  ·cases hA
  rename_i ti hti
  split at hA
  ·rename_i e hk
   split at hA
   ·rename_i ei q i f n' hei hx
    split at hA
    ·rename_i l' h' rows' hl hh hg
     cases hA
     simp only [dR, qx, hti, hk, hei, hx, yJ, hl, hh]
     rw [if_pos]
     refine ⟨c.1, c.2.1, c.2.2, ?_⟩
     by_cases hle : h <= l
     ·exact .inl hle
     ·refine .inr ?_
      have hlt : l.toNat < rows.length := by omega
      simp only [GN, hg, List.getElem?_eq_getElem hlt]
      simpa using hrow _ (List.getElem_mem hlt)
    ·cases hA
   ·cases hA
  ·cases hA
 ·cases hA
theorem uf {rows : Rows} {h i f : Nat} {c : C} (hc : at2 (rows.take h) i f = some c) : at2 rows i f = some c := by
 unfold at2 at hc ⊢
 cases hr : (rows.take h)[i]? with
 | none => rw [hr] at hc; cases hc
 | some r =>
  rw [hr] at hc
  rw [List.getElem?_take] at hr
  split at hr
  ·rw [hr]; exact hc
  ·cases hr
theorem pL {sz h : Nat} {rows : Rows} {x : Nat × Nat} {s : Path} {rs : Rows} (hg : cS (.sl sz (rows.take h)) (x :: s) = some rs) : cS (.sl sz rows) (x :: s) = some rs := by
 obtain ⟨i, f⟩ := x
 simp only [cS, C.rows, Option.bind_some, ay] at hg ⊢
 cases hc : at2 (rows.take h) i f with
 | none => rw [hc] at hg; cases hg
 | some c => rw [hc] at hg; rw [uf hc]; exact hg
theorem Det.take {sz h : Nat} {rows : Rows} {δ : Path -> Option Loc} {v v' : Value} (hd : Det w S (.sl sz rows) δ v) (hv : Hdr w S (.sl sz (rows.take h)) (δ []) v') : Det w S (.sl sz (rows.take h)) δ v' := by
 refine ⟨hv, fun s rs hs => ?_, fun s rs l i f c hs hl hc => ?_, fun s s' rs rs' l l' hs hs' hl hl' hb => ?_⟩
 ·cases s with
  | nil =>
   simp only [cS, C.rows, Option.bind_some, ay, Option.some.injEq] at hs
   subst hs
   have := hd.loc [] rows (by simp [cS, C.rows, ay])
   cases hl : δ [] with
   | none => rw [hl] at this; rw [(show rows = [] from this)]; simp [OW]
   | some l =>
    rw [hl] at this
    obtain ⟨k1, k2, k3, k4⟩ := this
    exact ⟨k1, by simp; omega, fun r hr => k3 r (List.mem_of_mem_take hr), k4⟩
  | cons x s => exact hd.loc _ _ (pL hs)
 ·cases s with
  | nil =>
   simp only [cS, C.rows, Option.bind_some, ay, Option.some.injEq] at hs
   subst hs
   exact hd.cell [] rows l i f c (by simp [cS, C.rows, ay]) hl (uf hc)
  | cons x s => exact hd.cell _ _ l i f c (pL hs) hl hc
 ·have key : ∀ s rs, cS (.sl sz (rows.take h)) s = some rs -> ∃ rs0, cS (.sl sz rows) s = some rs0 := fun s rs hs => by
   cases s with
   | nil => exact ⟨rows, by simp [cS, C.rows, ay]⟩
   | cons x s => exact ⟨rs, pL hs⟩
  obtain ⟨r1, h1⟩ := key s rs hs
  obtain ⟨r2, h2⟩ := key s' rs' hs'
  exact hd.inj s s' r1 r2 l l' h1 h2 hl hl' hb
def KZ (Ty : Types) (ops : Array Oper) (st : St) (i : Nat) : Option (Nat × Path × Nat × Nat × Nat × Nat × Rows × Int) :=
 match SI ops st i with
 | some (d, .slice t x none (some hi) none) => match Ty t with
  | none => none
  | some ti => match ti.k with
   | .slice e => match Ty e, evT st x, KQ (evT st hi) with
    | some ei, .one (.so q i f n), some h => match ay st.m q with
     | none => none
     | some rs => match at2 rs i f with
      | some (.sl sz rows) => some (d, q, i, f, n, sz, rows, h)
      | _ => none
    | _, _, _ => none
   | _ => none
 | _ => none
theorem XU {i0 d i f n sz : Nat} {q : Path} {rows rows' : Rows} {h : Int} {l : List Nat} {st1 : St} (ks : List Nat) (hTy : lT P Ty) (hA : KZ Ty ops st i0 = some (d, q, i, f, n, sz, rows, h)) (hc : 0 <= h /\ h <= (n : Int)) (hn : h.toNat <= rows.length)
  (hd : (decide (B.np <= d) && (at2 (ju st.m q i f) d 0).isSome) = true) (hrows : rows.take h.toNat = rows')
  (hst : St.ka ks (St.put { t := (st.t.map (TV.bX (T1.forget (q ++ [(i, f)])))).map (TV.bX (T1.forget [(d, 0)])), m := bz (ju st.m q i f) d 0 (.sl sz rows') } (some d) (.one (.so [] d 0 h.toNat))) = st1)
  (rest : yc P B ops l Q st1) : yc P B ops (i0 :: l) Q st := fun a w hR => by
 subst hrows
 obtain ⟨S, γ, hR, hSn⟩ := hR
 unfold KZ at hA
 split at hA
 ·rename_i d' t x hi hop
  split at hA
  ·cases hA
  ·rename_i ti hti
   split at hA
   ·rename_i e hk
    split at hA
    ·rename_i ei q' i' f' n' h' hei hx hh
     split at hA
     ·cases hA
     ·rename_i rs hq
      split at hA
      ·rename_i sz' rows' hat
       cases hA
       obtain ⟨o, ho, hw, hdst, hoo⟩ := vd hop
       simp only [Bool.and_eq_true, decide_eq_true_eq] at hd
       subst hst
       have hu : P.underlying t = some (.slice e) := by have := (hTy _ _ hti).1; rw [hk] at this; exact this
       have hsv := hR.evT x
       rw [hx] at hsv
       obtain ⟨y, hy⟩ := hR.mem.mC hq hat
       obtain ⟨kd, hiv⟩ := iT hh (hR.evT hi)
       obtain ⟨A, cap, hval, hcap⟩ : ∃ A cap, a.eval x = .slice A n cap /\ n <= cap := by
        rcases hsv with ⟨l, hl, h1, h2⟩ | ⟨hl, h1, h2⟩
        ·exact ⟨_, _, h1, h2⟩
        ·exact ⟨none, 0, by rw [h1]; exact h2, by omega⟩
       have hrun : (execOp a.eval o).run P w = .ok (.value (.slice (if cap = 0 then A else A.map (·.add 0)) h.toNat cap)) w := by
        have hb := wU (P := P) (w := w) (S := S) (γ := γ) (isSlice := true) (len := n) (cap := cap) (lo := none) (hi := some (evT st hi)) (lv := none) (hv := some (a.eval hi)) (l := 0) (h := h) rfl hh trivial (hR.evT hi) (by omega) hc.1 (by omega) w
        simp [execOp, hoo, Instr.sliceAt, Instr.slice, hval, run_underlying hu, hb, run_sizeOf (hTy _ _ hei)]
       have hA0 : (if cap = 0 then A else A.map (·.add 0)) = A := by
        split
        ·rfl
        ·cases A with
         | none => rfl
         | some ad => obtain ⟨b, o, z⟩ := ad; simp [Addr.add]
       rw [hA0] at hrun
       have hdet := hR.mem.det hq hat hy
       have hkill : ju st.m q i f = bh st.m q (bz rs i f .dead) := by simp [ju, hq]
       have hdet' : Det w S (.sl sz (rows.take h.toNat)) (fun s => γ (q ++ (i, f) :: s)) (.slice A h.toNat cap) := by
        refine hdet.take ?_
        show Hdr w S _ (γ (q ++ [(i, f)])) _
        rcases hsv with ⟨l, hl, h1, h2⟩ | ⟨hl, h1, h2⟩
        ·rw [hl] at hy ⊢
         rw [hval] at h1
         cases h1
         exact ⟨by simp [Nat.min_eq_left hn], by simp; omega, hy.2.2⟩
        ·rw [hl] at hy ⊢
         rw [hval] at h2
         cases h2
         exact ⟨by rw [hy.1]; simp, by rw [show h.toNat = 0 by omega]⟩
       have hg' : ∀ s' rs', cS (.sl sz (rows.take h.toNat)) s' = some rs' -> ∃ rs0, ay st.m (q ++ (i, f) :: s') = some rs0 := fun s' rs' hg => by
        cases s' with
        | nil => exact ⟨rows, by rw [ca hq hat]; simp [cS, C.rows, ay]⟩
        | cons y s' => exact ⟨rs', by rw [ca hq hat]; exact pL hg⟩
       obtain ⟨γ', r1, r2, r3⟩ := hR.Kf (w' := w) (x' := .sl sz (rows.take h.toNat)) (δ' := fun s => γ (q ++ (i, f) :: s)) hq hat hd.1 (by rw [<- hkill]; exact hd.2) (fun _ _ => rfl) (Nat.le_refl _) hR.fr (fun _ _ _ _ _ _ _ => rfl) hdet'
        (fun s' rs' l p rs0 l' hg hl hp hnp hr hl' he => by
         obtain ⟨r0, hg0⟩ := hg' s' rs' hg
         have := hR.mem.inj p (q ++ (i, f) :: s') rs0 r0 l' l hp (by simp) hr hg0 hl' hl he
         exact hnp ⟨s', by rw [this]; simp⟩)
        (fun s' rs' l hg hl => by
         obtain ⟨r0, hg0⟩ := hg' s' rs' hg
         exact hR.own _ _ _ (by simp) hg0 hl)
       unfold wpOps
       rw [ho]
       show if Region.wanted o (yielded ops a.tmps) = true then _ else _
       rw [if_pos (cV hR hw)]
       refine .inl ?_
       unfold Oper.wp
       rw [hrun]
       refine rest _ _ (iU ks ⟨S, γ', ?_, hSn⟩)
       rw [hdst, hkill]
       refine r1.put (t := .one (.so [] d 0 h.toNat)) ?_ (some d)
       have hr2 := r2 []
       show (∃ l, γ' ([] ++ [(d, 0)]) = some l /\ _) \/ (γ' ([] ++ [(d, 0)]) = none /\ _)
       rw [List.nil_append, hr2]
       rcases hsv with ⟨l, hl, h1, h2⟩ | ⟨hl, h1, h2⟩
       ·rw [hval] at h1
        cases h1
        exact .inl ⟨l, hl, rfl, by omega⟩
       ·rw [hval] at h2
        cases h2
        exact .inr ⟨hl, by omega, by rw [show h.toNat = 0 by omega]⟩
      ·cases hA
    ·cases hA
   ·cases hA
 ·cases hA
theorem Df {zero : Array Value} {n : Nat} (h : zero.toList.all plain = true) (hz : n = 0 \/ 0 < zero.size) : ∀ v ∈ (Builtin.zeroCells zero n).toList, plain v = true := by
 intro v hv
 unfold Builtin.zeroCells at hv
 rw [Array.toList_map, List.mem_map] at hv
 obtain ⟨j, hj, rfl⟩ := hv
 have hj : j < n * zero.size := by simpa using hj
 have hs : 0 < zero.size := by
  rcases hz with h0 | h0
  ·subst h0; simp at hj
  ·exact h0
 have hlt : j % zero.size < zero.size := Nat.mod_lt _ hs
 rw [getElem!_pos zero _ hlt]
 exact List.all_eq_true.1 h _ (by simp)
theorem yT (zero : Array Value) (n : Nat) : (Builtin.zeroCells zero n).toList.length = n * zero.size := by simp [Builtin.zeroCells]
theorem Det.tail {w' : World} {sz : Nat} {rows : Rows} {δ : Path -> Option Loc} {v : Value} {l : Loc} {cells cells' : Array Value} {e : TypeId} {lo hi : Nat} (hd : Det w S (.sl sz rows) δ v) (hl : δ [] = some l)
  (hh : w.heap[l.b]? = some (.cells cells e (lo, hi))) (hh' : w'.heap[l.b]? = some (.cells cells' e (lo, hi))) (hsz : cells'.size = cells.size) (heq : ∀ j, j < l.off + rows.length * l.sz -> cells'[j]? = cells[j]?)
  (hoth : ∀ j, j ≠ l.b -> w'.heap[j]? = w.heap[j]?) : Det w' S (.sl sz rows) δ v := by
 have h0 := hd.loc [] rows (by simp [cS, C.rows, ay])
 rw [hl] at h0
 obtain ⟨hS, hcap, hrow, c0, e0, lo0, hi0, g4, g5, g6⟩ := h0
 rw [hh] at g4
 cases g4
 have hSw : ∀ b, S b -> w'.heap[b]? = w.heap[b]? := fun b hb => hoth b fun he => hS (he ▸ hb)
 have hne : ∀ x s rs l', cS (.sl sz rows) (x :: s) = some rs -> δ (x :: s) = some l' -> l'.b ≠ l.b := fun x s rs l' hg hl' he => by
  have := hd.inj (x :: s) [] rs rows l' l hg (by simp [cS, C.rows, ay]) hl' hl he
  cases this
 refine ⟨hd.hd.frame (fun _ hb => hb) hSw, fun s rs hs => ?_, fun s rs l1 i f c hs hl1 hc => ?_, hd.inj⟩
 ·cases s with
  | nil =>
   simp only [cS, C.rows, Option.bind_some, ay, Option.some.injEq] at hs
   subst hs
   rw [hl]
   exact ⟨hS, hcap, hrow, cells', e, lo, hi, hh', by rw [hsz]; exact g5, g6⟩
  | cons x s =>
   have := hd.loc _ _ hs
   cases hx : δ (x :: s) with
   | none => rw [hx] at this; exact this
   | some l' =>
    rw [hx] at this
    obtain ⟨k1, k2, k3, cc, ee, l1, h1, k4, k5⟩ := this
    exact ⟨k1, k2, k3, cc, ee, l1, h1, by rw [hoth _ (hne x s rs l' hs hx)]; exact k4, k5⟩
 ·cases s with
  | nil =>
   simp only [cS, C.rows, Option.bind_some, ay, Option.some.injEq] at hs
   subst hs
   rw [hl] at hl1
   cases hl1
   obtain ⟨u, h1, h2⟩ := hd.cell [] rows l i f c (by simp [cS, C.rows, ay]) hl hc
   refine ⟨u, ?_, h2.frame (fun _ hb => hb) hSw⟩
   have hi : i < rows.length /\ f < l.sz := by
    unfold at2 at hc
    cases hr : rows[i]? with
    | none => rw [hr] at hc; cases hc
    | some r =>
     rw [hr] at hc
     have h3 := (List.getElem?_eq_some_iff.1 hr).1
     have h4 := (List.getElem?_eq_some_iff.1 hc).1
     rw [hrow r (List.mem_of_getElem? hr)] at h4
     exact ⟨h3, h4⟩
   have hlt : l.off + i * l.sz + f < l.off + rows.length * l.sz := by
    have : (i + 1) * l.sz <= rows.length * l.sz := Nat.mul_le_mul_right _ hi.1
    rw [Nat.succ_mul] at this
    omega
   simp only [World.cell?, hh, hh', heq _ hlt] at h1 ⊢
   exact h1
  | cons x s =>
   obtain ⟨u, h1, h2⟩ := hd.cell _ _ l1 i f c hs hl1 hc
   exact ⟨u, by rw [World.cell?_of_block (w := w) (hoth _ (hne x s rs l1 hs hl1))]; exact h1, h2.frame (fun _ hb => hb) hSw⟩
def Ai (Ty : Types) (ops : Array Oper) (st : St) (i k : Nat) : Option (Path × Nat × Nat × Nat × Nat × Nat × Nat × Rows) :=
 match ops[i]? with
 | none => none
 | some o => match dm ops st o, o.dst, o.op with
  | some true, none, .call { callee := .builtin .clear, args, argTypes } => match args.toList, argTypes.toList with
   | [x], [t] => match Ty t with
    | none => none
    | some ti => match ti.k with
     | .slice e => match Ty e, evT st x, st.t[k]? with
      | some ei, .one (.sp p lo n), some (.one (.so q i f n0)) => match ay st.m q with
       | none => none
       | some rs => match at2 rs i f with
        | some (.sl sz rows) => if p = q ++ [(i, f)] /\ ei.zero.cells.toList.all plain = true /\ 0 < ei.zero.cells.size /\ ei.zero.cells.size = sz then some (q, i, f, lo, n, n0, sz, rows) else none
        | _ => none
      | _, _, _ => none
     | _ => none
   | _, _ => none
  | _, _, _ => none
theorem Uj {i0 k d i f lo n n0 sz : Nat} {q : Path} {rows rows' : Rows} {l : List Nat} {st1 : St} (ks : List Nat) (hTy : lT P Ty) (hA : Ai Ty ops st i0 k = some (q, i, f, lo, n, n0, sz, rows)) (hc : lo + n = n0) (hn : lo <= rows.length)
  (hd : (decide (B.np <= d) && (at2 (ju st.m q i f) d 0).isSome) = true) (hrows : rows.take lo = rows')
  (hst : St.ka ks { t := ((st.t.map (TV.bX (T1.forget (q ++ [(i, f)])))).map (TV.bX (T1.forget [(d, 0)]))).set k (.one (.so [] d 0 n0)), m := bz (ju st.m q i f) d 0 (.sl sz rows') } = st1)
  (rest : yc P B ops l Q st1) : yc P B ops (i0 :: l) Q st := fun a w hR => by
 subst hrows
 obtain ⟨S, γ, hR, hSn⟩ := hR
 unfold Ai at hA
 split at hA
 ·cases hA
 rename_i o ho
 split at hA
 ·rename_i args argTypes hw hdst hop
  split at hA
  ·rename_i x t hargs htys
   split at hA
   ·cases hA
   rename_i ti hti
   split at hA
   ·rename_i e hk
    split at hA
    ·rename_i ei p lo' n' q' i' f' n0' hei hx hkk
     split at hA
     ·cases hA
     rename_i rs hq
     split at hA
     ·rename_i sz' rows' hat
      split at hA
      ·rename_i hcond
       obtain ⟨rfl, hzp, hz0, hzs⟩ := hcond
       cases hA
       simp only [Bool.and_eq_true, decide_eq_true_eq] at hd
       subst hst
       have e1 : args = #[x] := by cases args; simp_all
       have e2 : argTypes = #[t] := by cases argTypes; simp_all
       subst e1 e2
       have hu : P.underlying t = some (.slice e) := by have := (hTy _ _ hti).1; rw [hk] at this; exact this
       have hei' := hTy _ _ hei
       have hsp := hR.evT x
       rw [hx] at hsp
       have hso := hR.tv k _ hkk
       obtain ⟨y, hy⟩ := hR.mem.mC hq hat
       have hdet0 := hR.mem.det hq hat hy
       have hkill : ju st.m q i f = bh st.m q (bz rs i f .dead) := by simp [ju, hq]
       have hrun : ∃ w', (execOp a.eval o).run P w = .ok (.value (.tuple #[])) w' /\ w.heap.size = w'.heap.size /\ w'.os = w.os /\ w'.tape = w.tape /\ w'.output = w.output /\
         (w' = w \/ ∃ l cells cells' e' z1 z2, γ (q ++ [(i, f)]) = some l /\ w.heap[l.b]? = some (.cells cells e' (z1, z2)) /\ w'.heap[l.b]? = some (.cells cells' e' (z1, z2)) /\ cells'.size = cells.size /\
          (∀ j, j < l.off + lo * l.sz -> cells'[j]? = cells[j]?) /\ (∀ j, ¬ (l.off <= j /\ j < l.off + l.cap * l.sz) -> cells'[j]? = cells[j]?) /\ ∀ j, j ≠ l.b -> w'.heap[j]? = w.heap[j]?) := by
        have hex : ∀ w', (Builtin.clear_ #[t] o.type #[a.eval x]).run P w = .ok (.tuple #[]) w' -> (execOp a.eval o).run P w = .ok (.value (.tuple #[])) w' := fun w' hr => by
         simp [execOp, hop, resolve, invoke, builtin, hr]
        by_cases h0 : n = 0
        ·subst h0
         have hz : ∃ A cap, a.eval x = .slice A 0 cap := by
          rcases hsp with ⟨l, cap, _, h1, _⟩ | ⟨_, A, cap, h1⟩
          ·exact ⟨_, _, h1⟩
          ·exact ⟨_, _, h1⟩
         obtain ⟨A, cap, hv⟩ := hz
         refine ⟨w, hex w ?_, rfl, rfl, rfl, rfl, .inl rfl⟩
         rw [hv]
         cases A with
         | none => simp [Builtin.clear_, run_underlying hu]
         | some ad => simp [Builtin.clear_, run_underlying hu]
        ·have hsp' : ∃ l cap, γ (q ++ [(i, f)]) = some l /\ a.eval x = .slice (some ⟨l.b, l.off + lo * l.sz, none⟩) n cap := by
          rcases hsp with ⟨l, cap, hl, h1, _⟩ | ⟨hz, _⟩
          ·exact ⟨l, cap, hl, h1⟩
          ·exact absurd hz h0
         obtain ⟨l, cap, hl, hv⟩ := hsp'
         have hloc := hdet0.loc [] rows (by simp [cS, C.rows, ay])
         rw [hl] at hloc
         obtain ⟨_, _, _, cells, e', z1, z2, hh, hsz, hfz⟩ := hloc
         have hlsz : l.sz = sz := by rw [hl] at hy; exact hy.2.2
         have hcapn : lo + n <= l.cap := by
          rcases hso with ⟨l2, hl2, _, h2⟩ | ⟨hl2, _⟩
          ·rw [hl] at hl2; cases hl2; rw [hc]; exact h2
          ·rw [hl] at hl2; cases hl2
         have hlen : (Builtin.zeroCells ei.zero.cells n).toList.length = n * l.sz := by rw [yT, hzs, hlsz]
         have hend : lo * l.sz + n * l.sz <= l.cap * l.sz := by rw [<- Nat.add_mul]; exact Nat.mul_le_mul_right _ hcapn
         obtain ⟨w', cells', g1, g2, g3, g4, g5, g6, g7, g8, g9⟩ := yG P (Builtin.zeroCells ei.zero.cells n).toList (l.off + lo * l.sz) 0 cells w hh (by rw [hlen]; omega) (fun j h1 h2 => hfz j (by omega) (by rw [hlen] at h2; omega)) (Df hzp (.inr hz0))
         refine ⟨w', hex w' ?_, g9.symm, g6, g7, g8, .inr ⟨l, cells, cells', e', z1, z2, hl, hh, g2, g3, fun j hj => ?_, fun j hj => ?_, g5⟩⟩
         ·rw [hv]
          obtain ⟨m, rfl⟩ : ∃ m, n = m + 1 := ⟨n - 1, by omega⟩
          simp [Builtin.clear_, run_underlying hu, vm hei', g1]
         ·rw [g4 j, if_neg (by omega)]
         ·rw [g4 j, if_neg (by rw [hlen]; omega)]
       obtain ⟨w', hrun, hwsz, hwos, hwtp, hwout, hww⟩ := hrun
       have hothw : ∀ b, (∀ l, γ (q ++ [(i, f)]) = some l -> b ≠ l.b) -> w'.heap[b]? = w.heap[b]? := fun b hb => by
        rcases hww with rfl | ⟨l, cells, cells', e', z1, z2, hl, hh, hh', h3, h4, h5, h6⟩
        ·rfl
        ·exact h6 b (hb l hl)
       have hSw : ∀ b, S b -> w'.heap[b]? = w.heap[b]? := fun b hb => hothw b fun l hl he => by
        have := hdet0.loc [] rows (by simp [cS, C.rows, ay])
        rw [hl] at this
        exact this.1 (he ▸ hb)
       have hv' : ∃ v', Hdr w S (.sl sz (rows.take lo)) (γ (q ++ [(i, f)])) v' := by
        cases hl : γ (q ++ [(i, f)]) with
        | none => rw [hl] at hy; exact ⟨.slice none 0 0, by rw [hy.1]; simp, rfl⟩
        | some l => rw [hl] at hy; have h9 := hy.2.1; exact ⟨_, rfl, by simp; omega, hy.2.2⟩
       obtain ⟨v', hv'⟩ := hv'
       have hdet1 : Det w S (.sl sz (rows.take lo)) (fun s => γ (q ++ (i, f) :: s)) v' := hdet0.take hv'
       have hdet' : Det w' S (.sl sz (rows.take lo)) (fun s => γ (q ++ (i, f) :: s)) v' := by
        rcases hww with rfl | ⟨l, cells, cells', e', z1, z2, hl, hh, hh', h3, h4, h5, h6⟩
        ·exact hdet1
        ·exact hdet1.tail hl hh hh' h3 (fun j hj => h4 j (by
          have : (rows.take lo).length * l.sz <= lo * l.sz := Nat.mul_le_mul_right _ (by simp; omega)
          omega)) h6
       have hg' : ∀ s' rs', cS (.sl sz (rows.take lo)) s' = some rs' -> ∃ rs0, ay st.m (q ++ (i, f) :: s') = some rs0 := fun s' rs' hg => by
        cases s' with
        | nil => exact ⟨rows, by rw [ca hq hat]; simp [cS, C.rows, ay]⟩
        | cons y s' => exact ⟨rs', by rw [ca hq hat]; exact pL hg⟩
       have hfr : Frame B w' := by
        rcases hww with rfl | ⟨l, cells, cells', e', z1, z2, hl, hh, hh', h3, h4, h5, h6⟩
        ·exact hR.fr
        ·have hown := hR.own (q ++ [(i, f)]) rows l (by simp) (by rw [ca hq hat]; simp [cS, C.rows, ay]) hl
         refine ⟨hwos.trans hR.fr.os, hwtp.trans hR.fr.tape, hwout.trans hR.fr.output, by rw [<- hwsz]; exact hR.fr.size, fun b hb hF => ?_, fun b cs ee z hz => ?_⟩
         ·have hne : b ≠ l.b := fun he => by
           subst he
           rcases hown with h | ⟨⟨o', ho'⟩, _⟩
           ·omega
           ·exact hF o' ho'
          rw [h6 b hne]
          exact hR.fr.all b hb hF
         ·obtain ⟨c1, k1, k2, k3⟩ := hR.fr.cells b cs ee z hz
          by_cases hb : b = l.b
          ·subst hb
           rw [hh] at k1
           cases k1
           refine ⟨cells', hh', h3.trans k2, fun o' ho' => ?_⟩
           have hin : ¬ (l.off <= o' /\ o' < l.off + l.cap * l.sz) := fun ⟨p1, p2⟩ => by
            rcases hown with h | ⟨_, h⟩
            ·have := bT hz; omega
            ·exact ho' (h o' p1 p2)
           rw [h5 o' hin, k3 o' ho']
          ·exact ⟨c1, by rw [h6 b hb]; exact k1, k2, k3⟩
       obtain ⟨γ', r1, r2, r3⟩ := hR.Kf (w' := w') (x' := .sl sz (rows.take lo)) (δ' := fun s => γ (q ++ (i, f) :: s)) hq hat hd.1 (by rw [<- hkill]; exact hd.2) hSw (Nat.le_of_eq hwsz) hfr
        (fun p rs0 l' hp hnp hr hl' => hothw _ fun l hl he => by
         have := hR.mem.inj p (q ++ [(i, f)]) rs0 rows l' l hp (by simp) hr (by rw [ca hq hat]; simp [cS, C.rows, ay]) hl' hl he
         exact hnp (by rw [this]; exact List.prefix_refl _)) hdet'
        (fun s' rs' l p rs0 l' hg hl hp hnp hr hl' he => by
         obtain ⟨r0, hg0⟩ := hg' s' rs' hg
         have := hR.mem.inj p (q ++ (i, f) :: s') rs0 r0 l' l hp (by simp) hr hg0 hl' hl he
         exact hnp ⟨s', by rw [this]; simp⟩)
        (fun s' rs' l hg hl => by
         obtain ⟨r0, hg0⟩ := hg' s' rs' hg
         exact hR.own _ _ _ (by simp) hg0 hl)
       unfold wpOps
       rw [ho]
       show if Region.wanted o (yielded ops a.tmps) = true then _ else _
       rw [if_pos (cV hR hw)]
       refine .inl ?_
       unfold Oper.wp
       rw [hrun]
       refine rest _ _ (iU ks ⟨S, γ', ?_, hSn⟩)
       rw [hdst, hkill]
       refine ⟨r1.sS, r1.lt, r1.mem, fun j t' hj => ?_, by simpa [Act.put] using r1.size, by simpa using r1.msize, r1.defers, r1.own, r1.fix, r1.fr⟩
       by_cases hkj : k = j
       ·subst hkj
        have hlt : k < ((st.t.map (TV.bX (T1.forget (q ++ [(i, f)])))).map (TV.bX (T1.forget [(d, 0)]))).length := by have := (List.getElem?_eq_some_iff.1 hkk).1; simpa using this
        simp only [List.getElem?_set_self hlt, Option.some.injEq] at hj
        subst hj
        have hr2 := r2 []
        show (∃ l, γ' ([] ++ [(d, 0)]) = some l /\ _) \/ (γ' ([] ++ [(d, 0)]) = none /\ _)
        rw [List.nil_append, hr2]
        exact hso
       ·simp only [List.getElem?_set_ne hkj] at hj
        exact r1.tv j t' hj
      ·cases hA
     ·cases hA
    ·cases hA
   ·cases hA
  ·cases hA
 ·cases hA
end
end Go.Mv
namespace Go.Mv
open Go.RowKit
section
variable {P : Program} {Ty : Types} {B : da} {st : St} {Q : AQ} {ops : Array Oper} {N : List Nat} {fuel : Nat} {listed : Array Bool}
def NS : Op -> Bool
 | .move _ => true
 | .assign _ => true
 | .fieldAddr _ _ _ => true
 | _ => false
theorem HD {Q : Exit -> Act -> World -> Prop} {i : Nat} {oi : Oper} {v : Value} (hi : ops[i]? = some oi) (hsel : Region.noSelect ops = true) (hQ : ∀ c a w, ¬ Q (.panic c) a w) : ∀ (fuel : Nat) (listed : Array Bool) (a : Act) (w : World),
  (∀ j oj, ops[j]? = some oj -> j ≠ i -> listed.getD j true = false -> (∀ n, mq ops listed i n j = false) -> oi.apart ops oj = true) ->
  i ∈ Region.ready .any ops listed -> YieldsIf P ops (fun _ => True) oi v a -> yM P ops Q N fuel (listed.setIfInBounds i true) (a.put oi.dst v) w -> yM P ops Q N (fuel + 1) listed a w := by
 intro fuel
 induction fuel with
 | zero =>
  intro listed a w _ hr hy H
  refine ⟨fun h => (by rw [h] at hr; cases hr), fun j hj => ?_⟩
  by_cases hji : j = i
  ·subst hji; exact hy.wpOp hi trivial ⟨fun _ => sJ.refl w, H⟩
  ·have := ready_mono hj hji
   rw [H.1] at this
   cases this
 | succ fuel ih =>
  intro listed a w hfree hr hy H
  refine ⟨fun h => (by rw [h] at hr; cases hr), fun j hj => ?_⟩
  by_cases hji : j = i
  ·subst hji; exact hy.wpOp hi trivial ⟨fun _ => sJ.refl w, H⟩
  ·obtain ⟨hjun, oj, hoj, hall⟩ := mem_ready.1 hj
   have hun := (mem_ready.1 hr).1
   have hap := hfree j oj hoj hji hjun (tj hun hj)
   have h2 := wpOp_putIf hoj hap (fun cs b => Region.noSelect_spec hsel i oi cs b hi) (fun cs b => Region.noSelect_spec hsel j oj cs b hoj) (fun c a w h => absurd h (hQ c _ w)) hy (H.2 j (ready_mono hj hji))
   refine wpOp_mono (fun a' w' h3 => ?_) h2
   obtain ⟨hy', hk, hrest⟩ := h3
   refine ⟨hk, ih (listed.setIfInBounds j true) a' w' (fun k ok hk hki hun2 hno => hfree k ok hk hki ?_ fun n => ?_) (ready_mono hr (Ne.symm hji)) hy' ?_⟩
   ·by_cases hjk : j = k
    ·subst hjk; exact hjun
    ·rw [getD_set_ne true hjk] at hun2; exact hun2
   ·rw [Bool.eq_false_iff]
    intro hx
    have := xg hun hj n k hx
    rw [hno n] at this
    cases this
   ·rw [Array.setIfInBounds_comm _ _ hji]
    exact hrest
theorem QE {S : Nat -> Prop} {γ : Path -> Option Loc} {a : Act} {w : World} (hTy : lT P Ty) (hR : Rel B S γ st a w) {o : Oper} {tv : TV} (hp : NS o.op = true) (h : dR Ty st o.op = some tv) :
  ∃ v, (∀ w', (execOp a.eval o).run P w' = .ok (.value v) w') /\ aD w S γ tv v := by
 unfold dR at h
 split at h
 ·rename_i x ho
  cases h
  exact ⟨_, fun w' => by simp [execOp, ho], hR.evT x⟩
 ·rename_i x ho
  cases h
  exact ⟨_, fun w' => by simp [execOp, ho], hR.evT x⟩
 all_goals (rename_i ho; first | (rw [ho] at hp; cases hp; done) | skip)
 ·rename_i s x f
  obtain ⟨i, fs, off, ft, fi, hi, hk, hf, hfi, hg⟩ := mD hTy h
  split at hg
  ·cases hg
  ·rename_i hz
   obtain ⟨v, h1, h2⟩ := Aq (P := P) hi hk hf hfi hz (hR.evT x) hg
   exact ⟨v, fun w' => by simp [execOp, ho, h1], h2⟩
 ·cases h
end
end Go.Mv
namespace Go.Mv
open Go.RowKit
noncomputable def lim {α : Type} (f : Nat -> Option α) : Option α := open Classical in if h : ∃ k v, f k = some v then f h.choose else none
theorem Bx {α : Type} {f : Nat -> Option α} {v : α} (h : lim f = some v) : ∃ k, f k = some v := by
 unfold lim at h
 split at h
 ·exact ⟨_, h⟩
 ·cases h
theorem Mt {α : Type} {f : Nat -> Option α} {v : α} (k : Nat) (h : f k = some v) (u : ∀ k v', f k = some v' -> v' = v) : lim f = some v := by
 have hx : ∃ k v, f k = some v := ⟨k, v, h⟩
 unfold lim
 rw [dif_pos hx]
 obtain ⟨v', hv⟩ := hx.choose_spec
 rw [hv, u _ _ hv]
theorem Fh {xs : List Int} (h : ∀ n ∈ xs, 0 <= n /\ n < 256) : xs.map (fun n => [C.v (.int .u8 n)]) = bF (strOfNums xs) := by
 unfold bF strOfNums
 simp only [List.map_map]
 refine List.map_congr_left fun n hn => ?_
 obtain ⟨h0, h1⟩ := h n hn
 have e : ((UInt8.ofNat n.toNat).toNat : Int) = n := by rw [UInt8.toNat_ofNat_of_lt' (show n.toNat < 256 by omega)]; omega
 simp only [Function.comp_apply, e]
section
variable {P : Program} {Ty : Types} {B : da} {st : St} {Q : AQ} {ops : Array Oper} {N : List Nat} {fuel : Nat} {listed : Array Bool}
theorem AO {i d size n0 : Nat} {n : Int} {p : Path} {rows : Rows} {row : List C} (h : NO Ty ops st i = some (d, size, p, rows, n, n0)) (h0 : 0 <= n /\ n < n0) (hr : rows[n.toNat]? = some row) (hl : row.length = size) :
  ∃ o, ops[i]? = some o /\ dm ops st o = some true /\ o.dst = some d /\ dR Ty st o.op = some (.one (.pl p n.toNat 0)) := by
 unfold NO at h
 split at h
 ·cases h
 rename_i o ho
 split at h
 ·rename_i d' t x ix hw hd hop
  split at h
  ·cases h
  rename_i ti hti
  split at h
  ·rename_i e hk
   split at h
   ·cases h
   rename_i ei hei
   split at h
   ·rename_i q i' f n0' kd n' hx hix
    split at h
    ·rename_i rows' hg
     cases h
     refine ⟨o, ho, hw, hd, ?_⟩
     simp only [hop, dR, kh, hti, hk, hei, hix, KQ, hx]
     simp only [indexAt, GN, hg, hr]
     rw [if_pos ⟨h0.1, h0.2, by simpa using hl⟩]
    ·cases h
   ·cases h
  ·cases h
 ·cases h
end
end Go.Mv
namespace Go.Mv
open Go.RowKit
abbrev pV (r : Nat) : TV := .one (.pl [(r, 0)] 0 0)
abbrev lC {α : Type} (sz : Nat) (en : α -> List C) (xs : List α) : C := .sl sz (xs.map en)
abbrev lV {α : Type} (sz : Nat) (en : α -> List C) (xs : List α) : TV := .one (.c (.sl sz (xs.map en)))
section
variable {P : Program} {Ty : Types} {B : da} {Q : AQ} {n : Nat} {l0 l1 : List (Nat × TV)} {m : List (Nat × List C)}
section
variable {ops : Array Oper} {N : List Nat} {fuel : Nat} {listed listed' : Array Bool}
end
end
end Go.Mv
namespace Go.Mv
def eP {α : Type} (o : Option α) (P : α -> Prop) : Prop := ∃ a, o = some a /\ P a
section
variable {α β ι τ σ : Type} {P : α -> Prop}
theorem ai {a : α} (h : P a) : eP (some a) P := ⟨a, rfl, h⟩
theorem aI {o : Option α} {k : α -> Option β} {Q : β -> Prop} (h : eP o P) (hk : ∀ a, P a -> eP (k a) Q) : eP (bnd o k) Q := by
 obtain ⟨a, rfl, ha⟩ := h
 exact hk a ha
theorem km {o : Option (ι ⊕ τ)} {k : ι -> Option τ} {R : ι ⊕ τ -> Prop} {Q : τ -> Prop} (h : eP o R) (hl : ∀ j, R (.inl j) -> eP (k j) Q) (hr : ∀ t, R (.inr t) -> Q t) : eP (KO o k) Q := by
 obtain ⟨a, rfl, ha⟩ := h
 cases a with
 | inl j => exact hl j ha
 | inr t => exact ⟨t, rfl, hr t ha⟩
theorem ar {b : Bool} {x y : Option α} (h1 : b = true -> eP x P) (h2 : b = false -> eP y P) : eP (bif b then x else y) P := by
 cases b with
 | true => exact h1 rfl
 | false => exact h2 rfl
theorem ko {xs : List α} {i : Int} (h0 : 0 <= i) (h1 : i < xs.length) (h : ∀ a, xs[i.toNat]? = some a -> a ∈ xs -> P a) : eP (aB xs i) P := by
 have hl : i.toNat < xs.length := by omega
 refine ⟨xs[i.toNat], ?_, h _ (List.getElem?_eq_getElem hl) (List.getElem_mem hl)⟩
 unfold aB
 rw [if_pos h0]
 exact List.getElem?_eq_getElem hl
theorem kp {f : σ -> Option (σ ⊕ τ)} {Q : τ -> Prop} (inv : σ -> Prop) (m : σ -> Nat)
  (step : ∀ s, inv s -> eP (f s) (fun r => match r with | .inr t => Q t | .inl s' => inv s' /\ m s' < m s)) {s : σ} (h : inv s) : eP (aV f s) Q := by
 refine iW Q inv m (fun s hs => ?_) s h
 obtain ⟨a, e, ha⟩ := step s hs
 cases a with
 | inl s' => exact .inr ⟨s', e, ha.1, ha.2⟩
 | inr t => exact .inl ⟨t, e, ha⟩
end
end Go.Mv
namespace Go.Mv
open Go.RowKit
section
variable {P : Program} {Ty : Types} {B : da} {st : St} {Q : AQ} {ops : Array Oper}
end
theorem KT {m : Rows} {size n i f : Nat} {q : Path} {rows : Rows} (hg : ay m (q ++ [(i, f)]) = some rows) (hk : rows.length = n) (hl : rows.all (fun r => r.length == size) = true) (hn : rows.all (fun r => r.all Gw) = true) :
  dY m size (.one (.so q i f n)) = some (rows, []) := by
 have hs : oS m (.one (.so q i f n)) = some (false, rows) := by
  show rowsOf m (.one (.so q i f n)) = _
  simp only [rowsOf, hg, hk, if_true]
 unfold dY
 rw [hs]
 simp only [hl, hn, Bool.true_eq_false, Bool.false_eq_true, if_false, if_true]
end Go.Mv
