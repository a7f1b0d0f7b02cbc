/- What functions of the given program compute, each proved once, for the law that is proved in YtagoajkiccgmjaaFnRunAsk: whatever their arguments, under the conditions that each theorem names. -/
import Derived.Test.YtagoajkiccgmjaaProg
import Derived.Test.YtagoajkiccgmjaaMvVI
set_option linter.unusedVariables false
set_option linter.unusedSimpArgs false
namespace Go.Proofs.Ytagoajkiccgmjaa
open Go.Mv Go.RowKit
set_option maxRecDepth 100000
theorem eqD33_10000 : EqD Try.prog 10000 33 [.str, .str] :=
  eqD_struct (d := 9999) (fs := [⟨ "Lo", 9, 0, false, "", "", 0⟩, ⟨ "Hi", 9, 1, false, "", "", 16⟩]) (by kernel_rfl) (by kernel_rfl) (by kernel_rfl) (eqFs_leaf (by decide) rfl Try.isAgg9 (eqK_str (d := 9998) Try.underlying9) (eqFs_leaf (by decide) rfl Try.isAgg9 (eqK_str (d := 9998) Try.underlying9) eqFs_nil))
theorem eqOK33 : EqOK Try.prog 33 [.str, .str] := eqOK_of Try.eqGuardType33 eqD33_10000
theorem eqD33_9999 : EqD Try.prog 9999 33 [.str, .str] :=
  eqD_struct (d := 9998) (fs := [⟨ "Lo", 9, 0, false, "", "", 0⟩, ⟨ "Hi", 9, 1, false, "", "", 16⟩]) (by kernel_rfl) (by kernel_rfl) (by kernel_rfl) (eqFs_leaf (by decide) rfl Try.isAgg9 (eqK_str (d := 9997) Try.underlying9) (eqFs_leaf (by decide) rfl Try.isAgg9 (eqK_str (d := 9997) Try.underlying9) eqFs_nil))
theorem eqD35_10000 : EqD Try.prog 10000 35 [.int .i64, .str, .str, .str, .str, .int .i64, .bool] :=
  eqD_struct (d := 9999) (fs := [⟨ "Kind", 3, 0, false, "", "", 0⟩, ⟨ "Key", 9, 1, false, "", "", 8⟩, ⟨ "Val", 9, 2, false, "", "", 24⟩, ⟨ "Range", 33, 3, false, "", "", 40⟩, ⟨ "Most", 3, 5, false, "", "", 72⟩, ⟨ "Back", 4, 6, false, "", "", 80⟩]) (by kernel_rfl) (by kernel_rfl) (by kernel_rfl) (eqFs_leaf (by decide) rfl Try.isAgg3 (eqK_int (d := 9998) Try.underlying3) (eqFs_leaf (by decide) rfl Try.isAgg9 (eqK_str (d := 9998) Try.underlying9) (eqFs_leaf (by decide) rfl Try.isAgg9 (eqK_str (d := 9998) Try.underlying9) (eqFs_struct (by decide) rfl Try.isAgg33 Try.sizeOf33 rfl eqD33_9999 (ks := [.int .i64, .bool]) rfl (eqFs_leaf (by decide) rfl Try.isAgg3 (eqK_int (d := 9998) Try.underlying3) (eqFs_leaf (by decide) rfl Try.isAgg4 (eqK_bool (d := 9998) Try.underlying4) eqFs_nil))))))
theorem eqOK35 : EqOK Try.prog 35 [.int .i64, .str, .str, .str, .str, .int .i64, .bool] := eqOK_of Try.eqGuardType35 eqD35_10000
theorem eqD60_10000 : EqD Try.prog 10000 60 [.str, .str] :=
  eqD_struct (d := 9999) (fs := [⟨ "Key", 9, 0, false, "", "", 0⟩, ⟨ "Val", 9, 1, false, "", "", 16⟩]) (by kernel_rfl) (by kernel_rfl) (by kernel_rfl) (eqFs_leaf (by decide) rfl Try.isAgg9 (eqK_str (d := 9998) Try.underlying9) (eqFs_leaf (by decide) rfl Try.isAgg9 (eqK_str (d := 9998) Try.underlying9) eqFs_nil))
theorem eqOK60 : EqOK Try.prog 60 [.str, .str] := eqOK_of Try.eqGuardType60 eqD60_10000
noncomputable def tyL : List (Nat × TInfo) := [
  (3, { k := .int .i64, size := 1, bytes := 8, zero := .int .i64 0 }),
  (4, { k := .bool, size := 1, bytes := 1, zero := .bool false }),
  (5, { k := .int .u8, size := 1, bytes := 1, zero := .int .u8 0 }),
  (9, { k := .string, size := 1, bytes := 16, zero := .string ⟨#[]⟩ }),
  (29, { k := .slice 60, size := 1, bytes := 24, zero := .slice none 0 0, szs := [2] }),
  (33, { k := .struct [(0, 9), (1, 9)], size := 2, bytes := 32, zero := .agg #[.string ⟨#[]⟩, .string ⟨#[]⟩], eqs := some [.str, .str] }),
  (35, { k := .struct [(0, 3), (1, 9), (2, 9), (3, 33), (5, 3), (6, 4)], size := 7, bytes := 88, zero := .agg #[.int .i64 0, .string ⟨#[]⟩, .string ⟨#[]⟩, .string ⟨#[]⟩, .string ⟨#[]⟩, .int .i64 0, .bool false], eqs := some [.int .i64, .str, .str, .str, .str, .int .i64, .bool] }),
  (40, { k := .slice 5, size := 1, bytes := 24, zero := .slice none 0 0, szs := [1] }),
  (60, { k := .struct [(0, 9), (1, 9)], size := 2, bytes := 32, zero := .agg #[.string ⟨#[]⟩, .string ⟨#[]⟩], eqs := some [.str, .str] }),
  (87, { k := .struct [(0, 9), (1, 9), (2, 4)], size := 3, bytes := 40, zero := .agg #[.string ⟨#[]⟩, .string ⟨#[]⟩, .bool false] }),
  (95, { k := .other, size := 1, bytes := 8, zero := .pointer none }),
  (133, { k := .struct [(0, 40), (1, 3), (2, 3)], size := 3, bytes := 40, zero := .agg #[.slice none 0 0, .int .i64 0, .int .i64 0], szs := [1, 0, 0] }),
  (135, { k := .slice 3, size := 1, bytes := 24, zero := .slice none 0 0, szs := [1] }),
  (136, { k := .slice 9, size := 1, bytes := 24, zero := .slice none 0 0, szs := [1] }),
  (149, { k := .int .u64, size := 1, bytes := 8, zero := .int .u64 0 })]
noncomputable abbrev Ty := tyOf tyL
theorem tyOK : TyOK Try.prog Ty := tyOf_ok (by
  simp only [tyL, List.forall_mem_cons]
  refine ⟨⟨Try.underlying3, ⟨Try.t3, by kernel_rfl, rfl, rfl, rfl⟩, nofun⟩, ?_⟩
  refine ⟨⟨Try.underlying4, ⟨Try.t4, by kernel_rfl, rfl, rfl, rfl⟩, nofun⟩, ?_⟩
  refine ⟨⟨Try.underlying5, ⟨Try.t5, by kernel_rfl, rfl, rfl, rfl⟩, nofun⟩, ?_⟩
  refine ⟨⟨Try.underlying9, ⟨Try.t9, by kernel_rfl, rfl, rfl, rfl⟩, nofun⟩, ?_⟩
  refine ⟨⟨Try.underlying29, ⟨Try.t29, by kernel_rfl, rfl, rfl, rfl⟩, nofun⟩, ?_⟩
  refine ⟨⟨⟨_, Try.underlying33, rfl⟩, ⟨Try.t33, by kernel_rfl, rfl, rfl, rfl⟩, fun ks h => by cases h; exact eqOK33⟩, ?_⟩
  refine ⟨⟨⟨_, Try.underlying35, rfl⟩, ⟨Try.t35, by kernel_rfl, rfl, rfl, rfl⟩, fun ks h => by cases h; exact eqOK35⟩, ?_⟩
  refine ⟨⟨Try.underlying40, ⟨Try.t40, by kernel_rfl, rfl, rfl, rfl⟩, nofun⟩, ?_⟩
  refine ⟨⟨⟨_, Try.underlying60, rfl⟩, ⟨Try.t60, by kernel_rfl, rfl, rfl, rfl⟩, fun ks h => by cases h; exact eqOK60⟩, ?_⟩
  refine ⟨⟨⟨_, Try.underlying87, rfl⟩, ⟨Try.t87, by kernel_rfl, rfl, rfl, rfl⟩, nofun⟩, ?_⟩
  refine ⟨⟨⟨_, Try.underlying95, trivial⟩, ⟨Try.t95, by kernel_rfl, rfl, rfl, rfl⟩, nofun⟩, ?_⟩
  refine ⟨⟨⟨_, Try.underlying133, rfl⟩, ⟨Try.t133, by kernel_rfl, rfl, rfl, rfl⟩, nofun⟩, ?_⟩
  refine ⟨⟨Try.underlying135, ⟨Try.t135, by kernel_rfl, rfl, rfl, rfl⟩, nofun⟩, ?_⟩
  refine ⟨⟨Try.underlying136, ⟨Try.t136, by kernel_rfl, rfl, rfl, rfl⟩, nofun⟩, ?_⟩
  refine ⟨⟨Try.underlying149, ⟨Try.t149, by kernel_rfl, rfl, rfl, rfl⟩, nofun⟩, ?_⟩
  exact nofun)
def eN_u64 (n : Int) : List C := [.v (.int .u64 n)]
def eN_u8 (n : Int) : List C := [.v (.int .u8 n)]
def eBool (b : Bool) : List C := [bC b]
def eStr (s : ByteArray) : List C := [sC s]
def eInt (n : Int) : List C := [iC n]
structure Range where
  lo : ByteArray
  hi : ByteArray
instance : Inhabited Range := ⟨⟨⟨#[]⟩, ⟨#[]⟩⟩⟩
def eRange (x : Range) : List C := [sC x.lo, sC x.hi]
structure Ask where
  kind : Int
  key : ByteArray
  val : ByteArray
  range : Range
  most : Int
  back : Bool
instance : Inhabited Ask := ⟨⟨0, ⟨#[]⟩, ⟨#[]⟩, default, 0, false⟩⟩
def eAsk (x : Ask) : List C := [iC x.kind, sC x.key, sC x.val, sC x.range.lo, sC x.range.hi, iC x.most, bC x.back]
structure Edit where
  key : ByteArray
  val : ByteArray
  gone : Bool
instance : Inhabited Edit := ⟨⟨⟨#[]⟩, ⟨#[]⟩, false⟩⟩
def eEdit (x : Edit) : List C := [sC x.key, sC x.val, bC x.gone]
structure L01Cur where
  b : List Int
  i : Int
  h : Int
instance : Inhabited L01Cur := ⟨⟨[], 0, 0⟩⟩
def eL01Cur (x : L01Cur) : List C := [lC 1 eN_u8 x.b, iC x.i, iC x.h]
structure Pair where
  key : ByteArray
  val : ByteArray
instance : Inhabited Pair := ⟨⟨⟨#[]⟩, ⟨#[]⟩⟩⟩
def ePair (x : Pair) : List C := [sC x.key, sC x.val]
theorem cl_Str (s : ByteArray) : ∀ c ∈ eStr s, ∃ u, c = .v u := by simp [eStr, sC]
theorem cl_Int (n : Int) : ∀ c ∈ eInt n, ∃ u, c = .v u := by simp [eInt, iC]
theorem cl_Range (x : Range) : ∀ c ∈ eRange x, ∃ u, c = .v u := by simp [eRange, iC, sC, bC]
theorem cl_Ask (x : Ask) : ∀ c ∈ eAsk x, ∃ u, c = .v u := by simp [eAsk, iC, sC, bC]
theorem cl_Edit (x : Edit) : ∀ c ∈ eEdit x, ∃ u, c = .v u := by simp [eEdit, iC, sC, bC]
theorem cl_Pair (x : Pair) : ∀ c ∈ ePair x, ∃ u, c = .v u := by simp [ePair, iC, sC, bC]


noncomputable abbrev Wk := W Try.prog Ty
end Go.Proofs.Ytagoajkiccgmjaa
namespace Go.Proofs.Ytagoajkiccgmjaa
open Go.RowKit Go.Lib Go.Mv

/-- A copy of elements of some cells each, in terms of cells. -/
theorem run_copy_k {P : Program} (w : World) (dT sT ty elem : TypeId) (sz b o dLen dCap : Nat) (a : Addr) (sLen sCap : Nat) (cs : List Value)
    (hu : P.underlying dT = some (.slice elem)) (hs : (P.info? elem).map (·.size) = some sz) (hn : cs.length = Nat.min sLen dLen * sz)
    (hsrc : ∀ j v, cs[j]? = some v → w.cell? (a.add j) = some v) (hc : ∀ j, j < cs.length → (w.cell? ⟨b, o + j, none⟩).isSome = true) (hf : ∀ j, j < cs.length → w.frozen? ⟨b, o + j, none⟩ = false) (h1 : ∀ v ∈ cs, v.oneCell' = true) :
    (Builtin.copy_ #[dT, sT] ty #[.slice (some ⟨b, o, none⟩) dLen dCap, .slice (some a) sLen sCap]).run P w = .ok (goInt (Nat.min sLen dLen)) (w.setCells b o cs) := by
  have hl := run_loadCells_list (P := P) w a cs hsrc
  have hst := run_storeCells_cells (P := P) b o cs 0 w (by simpa using hc) (by simpa using hf) h1
  cases hq : P.info? elem with
  | none => simp [hq] at hs
  | some i =>
    have hi : i.size = sz := by simpa [hq] using hs
    simp [Builtin.copy_, run_underlying hu, Builtin.lenOf, Builtin.firstCells, sizeOf, typeInfo, hq, hi, ← hn, hl, hst]

theorem isSome_setCells_k (b : Nat) (vs : List Value) (o : Nat) (w : World) (h : ∀ j, j < vs.length → (w.cell? ⟨b, o + j, none⟩).isSome = true) (k : Nat) (hk : (w.cell? ⟨b, k, none⟩).isSome = true) : ((w.setCells b o vs).cell? ⟨b, k, none⟩).isSome = true := by
  by_cases hin : o ≤ k ∧ k < o + vs.length
  · have := World.cell?_setCells_in b vs o w h (k - o) (by omega)
    rw [show o + (k - o) = k by omega] at this
    rw [this]; rfl
  · rw [World.cell?_setCells_out b vs o w ⟨b, k, none⟩ (fun _ _ => by show k < o ∨ o + vs.length ≤ k; omega)]
    exact hk

theorem I_tS : Try.prog.underlying 29 = some (.slice 60) := (tyOK 29 _ rfl).1
theorem I_iE : (Try.prog.info? 60).map (·.size) = some 2 := by kernel_rfl
theorem I_zE (w : World) : (Go.sizeOf 60).run Try.prog w = .ok 2 w := Go.Mv.run_sizeOf (tyOK 60 _ rfl)
theorem I_w {a b : Nat} (h : a + b < 9223372036854775808) : Value.int .i64 (IntKind.wrap .i64 ((a : Int) + (b : Int))) = .int .i64 ((a + b : Nat) : Int) := by
  rw [mv_wrap (by omega) (by omega)]
  rfl

/-- slices.Insert: there is room, i < len(s): in place. -/
theorem ins_shift (b off n c i vb voff m vc : Nat) (cs vs : List Value) (w : World) (hi : i < n) (hm : 0 < m) (hroom : n + m ≤ c) (hc63 : n + m < 9223372036854775808) (hvb : vb ≠ b)
    (hcl : cs.length = n * 2) (hvl : vs.length = m * 2)
    (hcs : ∀ j v, cs[j]? = some v → w.cell? ⟨b, off + j, none⟩ = some v) (hsp : ∀ j, j < (n + m) * 2 → (w.cell? ⟨b, off + j, none⟩).isSome = true) (hfz : ∀ j, j < (n + m) * 2 → w.frozen? ⟨b, off + j, none⟩ = false)
    (hvs : ∀ j v, vs[j]? = some v → w.cell? ⟨vb, voff + j, none⟩ = some v) (h1c : ∀ v ∈ cs, v.oneCell' = true) (h1v : ∀ v ∈ vs, v.oneCell' = true)
    (tA tB : TypeId) (kA kB : Nat) (hsa : w.shape? vb = some (tA, kA)) (hsb : w.shape? b = some (tB, kB)) (hkB : kB ≠ 0) (hfa : w.frozen? ⟨vb, voff, none⟩ = false) (hfe : w.frozen? ⟨vb, kA, none⟩ = false) :
    Calls Try.prog 122 #[.slice (some ⟨b, off, none⟩) n c, .int .i64 i, .slice (some ⟨vb, voff, none⟩) m vc] w fun e w' => ∃ v, e = .returned v ∧
      (v = .slice (some ⟨b, off, none⟩) (n + m) c ∧ w' = (w.drew.setCells b (off + (i + m) * 2) (cs.drop (i * 2))).setCells b (off + i * 2) vs) := by
  have hov : (callFunc 135 [Value.slice (some ⟨vb, voff, none⟩) m vc, .slice (some ⟨b, off + (i + m) * 2, none⟩) (n + m - (i + m)) (c - (i + m))].toArray).run Try.prog w = .ok (.value (.bool false)) w := by
    rw [show [Value.slice (some ⟨vb, voff, none⟩) m vc, .slice (some ⟨b, off + (i + m) * 2, none⟩) (n + m - (i + m)) (c - (i + m))].toArray = #[Value.slice (some ⟨vb, voff, none⟩) m vc, .slice (some ⟨b, off + (i + m) * 2, none⟩) (n + m - (i + m)) (c - (i + m))] from rfl,
      run_callFunc_extern Try.func135 (by kernel_rfl) (by kernel_rfl) (by kernel_rfl) (e := Extern.SlicesOverlaps.overlaps #[29, 29] #[4]) (by kernel_rfl),
      Lib.run_overlaps_apart w 29 4 60 I_tS 2 I_zE ⟨vb, voff, none⟩ ⟨b, off + (i + m) * 2, none⟩ m vc _ _ hvb tA tB kA kB hsa hsb hkB hfa hfe]
    rfl
  have hdl : (cs.drop (i * 2)).length = (n - i) * 2 := by rw [List.length_drop, hcl]; omega
  have hcp1 : (Builtin.copy_ #[29, 29] 3 #[.slice (some ⟨b, off + (i + m) * 2, none⟩) (n + m - (i + m)) (c - (i + m)), .slice (some ⟨b, off + i * 2, none⟩) (n + m - i) (c - i)]).run Try.prog w.drew = .ok (goInt (Nat.min (n + m - i) (n + m - (i + m)))) (w.drew.setCells b (off + (i + m) * 2) (cs.drop (i * 2))) :=
    run_copy_k w.drew _ _ 3 60 2 b (off + (i + m) * 2) (n + m - (i + m)) _ ⟨b, off + i * 2, none⟩ (n + m - i) _ (cs.drop (i * 2)) I_tS I_iE (by rw [hdl]; simp only [Nat.min_def]; split <;> omega)
      (fun j v hj => by rw [Addr.add_lit, Nat.add_assoc]; exact hcs (i * 2 + j) v (by rwa [List.getElem?_drop] at hj))
      (fun j hj => by rw [Nat.add_assoc]; exact hsp _ (by omega)) (fun j hj => by rw [Nat.add_assoc]; exact hfz _ (by omega)) (fun v hv => h1c v (List.mem_of_mem_drop hv))
  obtain ⟨W1, hW1⟩ : ∃ W1, W1 = w.drew.setCells b (off + (i + m) * 2) (cs.drop (i * 2)) := ⟨_, rfl⟩
  have hsp1 : ∀ k, k < (n + m) * 2 → (W1.cell? ⟨b, off + k, none⟩).isSome = true := fun k hk => by
    rw [hW1]
    exact isSome_setCells_k b _ _ _ (fun j hj => by rw [Nat.add_assoc]; exact hsp _ (by omega)) _ (hsp k hk)
  have hcp2 : (Builtin.copy_ #[29, 29] 3 #[.slice (some ⟨b, off + i * 2, none⟩) (n + m - i) (c - i), .slice (some ⟨vb, voff, none⟩) m vc]).run Try.prog W1 = .ok (goInt (Nat.min m (n + m - i))) (W1.setCells b (off + i * 2) vs) :=
    run_copy_k W1 _ _ 3 60 2 b (off + i * 2) (n + m - i) _ ⟨vb, voff, none⟩ m vc vs I_tS I_iE (by rw [hvl]; simp only [Nat.min_def]; split <;> omega)
      (fun j v hj => by
        rw [Addr.add_lit, hW1, World.cell?_setCells_out b _ _ _ _ (fun h _ => absurd h hvb)]
        exact hvs j v hj)
      (fun j hj => by rw [Nat.add_assoc]; exact hsp1 _ (by omega)) (fun j hj => by rw [hW1, World.frozen?_setCells, Nat.add_assoc]; exact hfz _ (by omega)) h1v
  rw [← hW1] at hcp1 ⊢
  have hA : Value.slice (some ⟨b, off + (i + m) * 2, none⟩) (n + m - (i + m)) (c - (i + m)) = .slice (if c = i + m then some ⟨b, off, none⟩ else (some (⟨b, off, none⟩ : Addr)).map (·.add ((i + m) * 2))) (n + m - (i + m)) (c - (i + m)) := by
    rw [if_neg (by omega), Option.map_some, Addr.add_lit]
  have hB : Value.slice (some ⟨b, off + i * 2, none⟩) (n + m - i) (c - i) = .slice (if c = i then some ⟨b, off, none⟩ else (some (⟨b, off, none⟩ : Addr)).map (·.add (i * 2))) (n + m - i) (c - i) := by
    rw [if_neg (by omega), Option.map_some, Addr.add_lit]
  have hC : Value.slice (some ⟨b, off, none⟩) (n + m) c = .slice (if c = 0 then some ⟨b, off, none⟩ else (some (⟨b, off, none⟩ : Addr)).map (·.add (0 * 2))) (n + m - 0) (c - 0) := by
    rw [if_neg (by omega)]; simp [Addr.add]
  let R : Value → World → Prop := fun v w' => v = .slice (some ⟨b, off, none⟩) (n + m) c ∧ w' = W1.setCells b (off + i * 2) vs
  let walk : V Try.prog Ty Try.f122 R :=
    V.rg [] <| V.rg [(2, Vx.sl (A := some ⟨b, off, none⟩) (n := n) (c := c) (lo := i) (hi := n) (sz := 2) ⟨by omega, by omega⟩ rfl)] <| V.rg [(1, Vx.ln (A := some ⟨vb, voff, none⟩) (n := m) (c := vc))] <| V.rg [] <|
    V.br ((m : Int) == 0) false (by simp; omega) <| V.rg [(1, Vx.ln (A := some ⟨b, off, none⟩) (n := n) (c := c))] <| V.rg [] <| V.br ((i : Int) == (n : Int)) false (by simp; omega) <|
    V.rg [(2, Vx.pe (I_w (a := n) (b := m) (by omega))), (4, Vx.cp (A := some ⟨b, off, none⟩) (n := n) (c := c))] <| V.br (decide (((n + m : Nat) : Int) > (c : Int))) false (by simp; omega) <|
    V.rg [(3, Vx.pe (I_w (a := n) (b := m) (by omega))), (4, Vx.sl (n := n) (lo := 0) ⟨by omega, hroom⟩ hC)] <|
    V.rg [(4, Vx.pe (I_w (a := i) (b := m) (by omega))), (5, Vx.sl (n := n + m) (lo := i + m) (hi := n + m) ⟨by omega, hroom⟩ hA), (6, Vx.ext hov rfl)] <| V.br true true rfl <|
    V.dr [(3, Vx.pe (I_w (a := i) (b := m) (by omega))), (4, Vx.sl (n := n + m) (lo := i + m) (hi := n + m) ⟨by omega, hroom⟩ hA), (7, Vx.sl (n := n + m) (lo := i) (hi := n + m) ⟨by omega, hroom⟩ hB), (8, Vx.cpy hcp1 rfl)] <|
    V.rg [(2, Vx.sl (n := n + m) (lo := i) (hi := n + m) ⟨by omega, hroom⟩ hB), (4, Vx.cpy hcp2 rfl)] <| V.rg [] <| V.ret (t := 6) rfl ⟨rfl, rfl⟩
  exact V.calls walk tyOK Try.func122 rfl (vals := [.slice (some ⟨b, off, none⟩) n c, .int .i64 i, .slice (some ⟨vb, voff, none⟩) m vc]) (by simp [plain]) (by kernel_rfl)

theorem I_grown (w : World) (need old : Nat) (e : TypeId) : need ≤ grownCap w need old e := by simp only [grownCap, Question.cut]; omega
theorem I_s {a b : Nat} (hb : b ≤ a) (h : a < 9223372036854775808) : Value.int .i64 (IntKind.wrap .i64 ((a : Int) - (b : Int))) = .int .i64 ((a - b : Nat) : Int) := by
  rw [mv_wrap (by omega) (by omega)]
  congr 1
  omega

/-- slices.Insert: there is no room, i < len(s): a new block. -/
theorem ins_grow (b off n c i vb voff m vc : Nat) (cs vs : List Value) (w : World) (hi : i < n) (hm : 0 < m) (hroom : c < n + m) (hnc : n ≤ c) (hfit : (n + m) * 32 ≤ 140737488355328) (hvb : vb < w.heap.size) (hb : b < w.heap.size)
    (hcl : cs.length = n * 2) (hvl : vs.length = m * 2)
    (hcs : ∀ j v, cs[j]? = some v → w.cell? ⟨b, off + j, none⟩ = some v) (hvs : ∀ j v, vs[j]? = some v → w.cell? ⟨vb, voff + j, none⟩ = some v) (h1c : ∀ v ∈ cs, v.oneCell' = true) (h1v : ∀ v ∈ vs, v.oneCell' = true)
    (z : Array Value) (hz : z.size = 2) (hzi : ∃ zv, zv.cells = z ∧ ∃ inf, Try.prog.info? 60 = some inf ∧ inf.zero = some zv ∧ inf.bytes = 32 ∧ inf.size = 2) :
    Calls Try.prog 122 #[.slice (some ⟨b, off, none⟩) n c, .int .i64 i, .slice (some ⟨vb, voff, none⟩) m vc] w fun e w' => ∃ v, e = .returned v ∧
      (v = .slice (some ⟨w.heap.size, 0, none⟩) (n + m) (grownCap w (n + m) c 60) ∧ w' = (((w.drew.alloc (.cells ((cs.take (i * 2)).toArray ++ Builtin.zeroCells z (n + m - i) ++ Builtin.zeroCells z (grownCap w (n + m) c 60 - (n + m))) 60)).setCells w.heap.size (i * 2) vs).drew.setCells w.heap.size ((i + m) * 2) (cs.drop (i * 2)))) := by
  obtain ⟨zv, rfl, inf, hinf, hzero, hby, hsz⟩ := hzi
  obtain ⟨G, hG⟩ : ∃ G, G = grownCap w (n + m) c 60 := ⟨_, rfl⟩
  have hGn : n + m ≤ G := hG ▸ I_grown w _ _ _
  have htl : (cs.take (i * 2)).length = i * 2 := by rw [List.length_take, hcl]; omega
  have hold : (Builtin.firstCells inf.size i (.slice (some ⟨b, off, none⟩) i c)).run Try.prog w.drew = .ok (cs.take (i * 2)).toArray w.drew := by
    have := run_loadCells_list (P := Try.prog) w.drew ⟨b, off, none⟩ (cs.take (i * 2)) (fun j v hj => by
      rw [Addr.add_lit]
      rw [List.getElem?_take] at hj
      split at hj
      · exact hcs j v hj
      · cases hj)
    rw [htl] at this
    rw [hsz]
    exact this
  have hap := run_append_grow_zeros (P := Try.prog) w 29 3 29 60 inf zv .i64 .i64 I_tS (tyOK 3 _ rfl).1 hinf hzero (some ⟨b, off, none⟩) i c (cs.take (i * 2)) hold (n + m - i) (by omega) (by rw [hsz]; decide) (by omega) (by omega)
    (by rw [hby]; omega) (by have := growslice_fits (old := c) (need := i + (n + m - i)) (bytes := inf.bytes) (by omega) (by rw [hby]; omega); omega)
  rw [show i + (n + m - i) = n + m by omega, ← hG] at hap
  obtain ⟨W0, hW0⟩ : ∃ W0, W0 = w.drew.alloc (.cells ((cs.take (i * 2)).toArray ++ Builtin.zeroCells zv.cells (n + m - i) ++ Builtin.zeroCells zv.cells (G - (n + m))) 60) := ⟨_, rfl⟩
  rw [← hW0] at hap
  have hnb : W0.heap[w.heap.size]? = some (.cells ((cs.take (i * 2)).toArray ++ Builtin.zeroCells zv.cells (n + m - i) ++ Builtin.zeroCells zv.cells (G - (n + m))) 60) := by
    rw [hW0]; exact heap_push_eq w.drew _
  have hsz0 : ((cs.take (i * 2)).toArray ++ Builtin.zeroCells zv.cells (n + m - i) ++ Builtin.zeroCells zv.cells (G - (n + m))).size = G * 2 := by
    have h1 := zeroCells_length zv.cells (n + m - i)
    have h2 := zeroCells_length zv.cells (G - (n + m))
    simp only [Array.size_append, List.size_toArray, htl]
    rw [← Array.length_toList (xs := Builtin.zeroCells zv.cells (n + m - i)), ← Array.length_toList (xs := Builtin.zeroCells zv.cells (G - (n + m))), h1, h2, hz]
    omega
  have hold0 : ∀ bb oo, bb < w.heap.size → W0.cell? ⟨bb, oo, none⟩ = w.cell? ⟨bb, oo, none⟩ := fun bb oo hx => by
    rw [hW0]
    exact World.cell?_of_block (w := w) (heap_push_lt w.drew _ hx)
  have hsp0 : ∀ k, k < G * 2 → (W0.cell? ⟨w.heap.size, k, none⟩).isSome = true := fun k hk => by
    simp only [World.cell?, hnb, Option.isSome_none, Bool.false_eq_true, if_false]
    rw [Array.getElem?_eq_getElem (by omega)]
    rfl
  have hfz0 : ∀ k, W0.frozen? ⟨w.heap.size, k, none⟩ = false := fun k => by
    simp only [World.frozen?, hnb]
    simp
  have hdl : (cs.drop (i * 2)).length = (n - i) * 2 := by rw [List.length_drop, hcl]; omega
  have hcp1 : (Builtin.copy_ #[29, 29] 3 #[.slice (some ⟨w.heap.size, i * 2, none⟩) (n + m - i) (G - i), .slice (some ⟨vb, voff, none⟩) m vc]).run Try.prog W0 = .ok (goInt (Nat.min m (n + m - i))) (W0.setCells w.heap.size (i * 2) vs) :=
    run_copy_k W0 _ _ 3 60 2 w.heap.size (i * 2) (n + m - i) _ ⟨vb, voff, none⟩ m vc vs I_tS I_iE (by rw [hvl]; simp only [Nat.min_def]; split <;> omega)
      (fun j v hj => by rw [Addr.add_lit, hold0 _ _ hvb]; exact hvs j v hj) (fun j hj => hsp0 _ (by omega)) (fun j hj => hfz0 _) h1v
  obtain ⟨W1, hW1⟩ : ∃ W1, W1 = W0.setCells w.heap.size (i * 2) vs := ⟨_, rfl⟩
  rw [← hW1] at hcp1
  have hcp2 : (Builtin.copy_ #[29, 29] 3 #[.slice (some ⟨w.heap.size, (i + m) * 2, none⟩) (n + m - (i + m)) (G - (i + m)), .slice (some ⟨b, off + i * 2, none⟩) (n - i) (c - i)]).run Try.prog W1.drew = .ok (goInt (Nat.min (n - i) (n + m - (i + m)))) (W1.drew.setCells w.heap.size ((i + m) * 2) (cs.drop (i * 2))) :=
    run_copy_k W1.drew _ _ 3 60 2 w.heap.size ((i + m) * 2) (n + m - (i + m)) _ ⟨b, off + i * 2, none⟩ (n - i) _ (cs.drop (i * 2)) I_tS I_iE (by rw [hdl]; simp only [Nat.min_def]; split <;> omega)
      (fun j v hj => by
        rw [Addr.add_lit]
        show W1.cell? _ = _
        rw [hW1, World.cell?_setCells_out w.heap.size vs (i * 2) W0 ⟨b, off + i * 2 + j, none⟩ (fun h _ => absurd (show b = w.heap.size from h) (by omega)), hold0 _ _ hb, Nat.add_assoc]
        exact hcs (i * 2 + j) v (by rwa [List.getElem?_drop] at hj))
      (fun j hj => by
        show (W1.cell? _).isSome = true
        rw [hW1]
        have := isSome_setCells_k w.heap.size vs (i * 2) W0 (fun j hj => hsp0 _ (by omega)) ((i + m) * 2 + j) (hsp0 _ (by omega))
        exact this) (fun j hj => by
        show W1.frozen? _ = false
        rw [hW1, World.frozen?_setCells]
        exact hfz0 _) (fun v hv => h1c v (List.mem_of_mem_drop hv))
  rw [← hG, ← hW0, ← hW1]
  have hA : Value.slice (some ⟨b, off, none⟩) i c = .slice (if c = 0 then some ⟨b, off, none⟩ else (some (⟨b, off, none⟩ : Addr)).map (·.add (0 * 2))) (i - 0) (c - 0) := by
    rw [if_neg (by omega)]; simp [Addr.add]
  have hB : Value.slice (some ⟨w.heap.size, i * 2, none⟩) (n + m - i) (G - i) = .slice (if G = i then some ⟨w.heap.size, 0, none⟩ else (some (⟨w.heap.size, 0, none⟩ : Addr)).map (·.add (i * 2))) (n + m - i) (G - i) := by
    rw [if_neg (by omega), Option.map_some, Addr.add_lit, Nat.zero_add]
  have hC : Value.slice (some ⟨w.heap.size, (i + m) * 2, none⟩) (n + m - (i + m)) (G - (i + m)) = .slice (if G = i + m then some ⟨w.heap.size, 0, none⟩ else (some (⟨w.heap.size, 0, none⟩ : Addr)).map (·.add ((i + m) * 2))) (n + m - (i + m)) (G - (i + m)) := by
    rw [if_neg (by omega), Option.map_some, Addr.add_lit, Nat.zero_add]
  have hD : Value.slice (some ⟨b, off + i * 2, none⟩) (n - i) (c - i) = .slice (if c = i then some ⟨b, off, none⟩ else (some (⟨b, off, none⟩ : Addr)).map (·.add (i * 2))) (n - i) (c - i) := by
    rw [if_neg (by omega), Option.map_some, Addr.add_lit]
  let R : Value → World → Prop := fun v w' => v = .slice (some ⟨w.heap.size, 0, none⟩) (n + m) G ∧ w' = W1.drew.setCells w.heap.size ((i + m) * 2) (cs.drop (i * 2))
  let walk : V Try.prog Ty Try.f122 R :=
    V.rg [] <| V.rg [(2, Vx.sl (A := some ⟨b, off, none⟩) (n := n) (c := c) (lo := i) (hi := n) (sz := 2) ⟨by omega, by omega⟩ rfl)] <| V.rg [(1, Vx.ln (A := some ⟨vb, voff, none⟩) (n := m) (c := vc))] <| V.rg [] <|
    V.br ((m : Int) == 0) false (by simp; omega) <| V.rg [(1, Vx.ln (A := some ⟨b, off, none⟩) (n := n) (c := c))] <| V.rg [] <| V.br ((i : Int) == (n : Int)) false (by simp; omega) <|
    V.rg [(2, Vx.pe (I_w (a := n) (b := m) (by omega))), (4, Vx.cp (A := some ⟨b, off, none⟩) (n := n) (c := c))] <| V.br (decide (((n + m : Nat) : Int) > (c : Int))) true (by simp; omega) <|
    V.rg [(2, Vx.sl (n := n) (lo := 0) (hi := i) ⟨by omega, by omega⟩ hA), (5, Vx.pe (I_w (a := n) (b := m) (by omega))), (7, Vx.pe (I_s (a := n + m) (b := i) (by omega) (by omega))), (8, Vx.apd hap rfl)] <|
    V.rg [(2, Vx.sl (n := n + m) (lo := i) (hi := n + m) ⟨by omega, by omega⟩ hB), (4, Vx.cpy hcp1 rfl)] <|
    V.dr [(3, Vx.pe (I_w (a := i) (b := m) (by omega))), (4, Vx.sl (n := n + m) (lo := i + m) (hi := n + m) ⟨by omega, by omega⟩ hC), (7, Vx.sl (n := n) (lo := i) (hi := n) ⟨by omega, by omega⟩ hD), (8, Vx.cpy hcp2 rfl)] <|
    V.rg [] <| V.ret (t := 6) rfl ⟨rfl, rfl⟩
  exact V.calls walk tyOK Try.func122 rfl (vals := [.slice (some ⟨b, off, none⟩) n c, .int .i64 i, .slice (some ⟨vb, voff, none⟩) m vc]) (by simp [plain]) (by kernel_rfl)
end Go.Proofs.Ytagoajkiccgmjaa
namespace Go.Proofs.Ytagoajkiccgmjaa
open Go.RowKit Go.Lib Go.Mv

noncomputable def sl_Insert_Pair (p0 : (List Pair)) (p1 : Int) (p2 : (List Pair)) : Option (List Pair) :=
  chk (0 ≤ p1 ∧ p1 ≤ (p0.length : Int) ∧ 0 < p2.length ∧ (p0.length + p2.length) * 32 ≤ 140737488355328) <| some (p0.take p1.toNat ++ p2 ++ p0.drop p1.toNat)

theorem I_el (x : Pair) : (ePair x).length = 2 := rfl
theorem I_ep (x : Pair) : ∀ c ∈ ePair x, ∃ u, c = .v u ∧ plain u = true := by
  intro c hc
  obtain ⟨u, rfl⟩ := cl_Pair x c hc
  refine ⟨u, rfl, ?_⟩
  simp only [ePair, List.mem_cons, C.v.injEq, List.not_mem_nil, or_false] at hc
  rcases hc with rfl | rfl <;> rfl

/-- At the end: it is an append. -/
noncomputable def wInsEnd (p0 : List Pair) (p1 : Int) (p2 : List Pair) (hc : p1 = ((p0.map ePair).length : Int)) (hm : 0 < p2.length) (hb : (p0.length + p2.length) * 32 ≤ 140737488355328) : Wk (List Pair) :=
  .p 3 <|
  .s (.sub ePair p0 (l := p1) (r := ((p0.map ePair).length : Int)) (by subst hc; simp)) <|
  .p 5 <|
  .br false ((((p2.map ePair).length : Nat) : Int) == 0) (by simp; intro h; simp [h] at hm) <|
  .p 6 <|
  .br true (p1 == ((p0.map ePair).length : Int)) (by simp [hc]) <|
  .p 2 <|
  .s (.app ePair .own hb) <|
  .p 1 <|
  .im (.kill [(0, 1)]) <|
  .ret (p0 ++ p2)

theorem k_sl_Insert_Pair (p0 : (List Pair)) (p1 : Int) (p2 : (List Pair)) (v : (List Pair)) (h : sl_Insert_Pair p0 p1 p2 = some v) :
    CallG Try.prog 122 [lC 2 ePair p0, lC 2 ePair p2] [.one (.so [] 0 0 ((p0).map ePair).length), iV p1, .one (.so [] 0 1 ((p2).map ePair).length)] [] (.one (.so [] 0 0 ((v).map ePair).length)) [lC 2 ePair v] := by
  obtain ⟨⟨c0, c1, c2, c3⟩, h⟩ := chk_e h
  cases h
  by_cases hend : p1 = ((p0.map ePair).length : Int)
  · have : p0.take p1.toNat ++ p2 ++ p0.drop p1.toNat = p0 ++ p2 := by
      subst hend; simp
    rw [this]
    exact (wInsEnd p0 p1 p2 hend c2 c3).callg tyOK Try.func122 rfl (outs := fun v => []) (res := fun v : List Pair => .one (.so [] 0 0 ((v).map ePair).length)) (row := fun v : List Pair => [lC 2 ePair v]) (Nat.le_of_ble_eq_true rfl) (by kernel_rfl) rfl
  intro w S γ vals hS hm hv
  obtain ⟨x0, _, rfl, h0, hv⟩ := hv.uncons
  obtain ⟨x1, _, rfl, h1, hv⟩ := hv.uncons
  obtain ⟨x2, r, rfl, h2, hv⟩ := hv.uncons
  obtain rfl : r = [] := List.eq_nil_of_length_eq_zero hv.1.symm
  obtain rfl := one_v h1
  simp only [List.length_map] at hend h0 h2
  obtain ⟨i, rfl⟩ : ∃ i : Nat, p1 = (i : Int) := ⟨p1.toNat, by omega⟩
  have hin : i < p0.length := by omega
  simp only [Int.toNat_natCast]
  rcases h0 with ⟨l0, hl0, rfl, hcap0⟩ | ⟨_, hz, _⟩
  case inr => omega
  rcases h2 with ⟨l2, hl2, rfl, hcap2⟩ | ⟨_, hz, _⟩
  case inr => omega
  simp only [List.nil_append] at hl0 hl2
  obtain ⟨hs0, hS0, hc0, ⟨cells0, e0, lo0, hi0, hh0, hsz0, hlh0, hfz0⟩, hcell0⟩ := own_facts (k := 0) (l := p0) I_ep hm rfl hl0
  obtain ⟨hs2, hS2, hc2, ⟨cells2, e2, lo2, hi2, hh2, hsz2, hlh2, hfz2⟩, hcell2⟩ := own_facts (k := 1) (l := p2) I_ep hm rfl hl2
  have hne : l2.b ≠ l0.b := fun he => by
    have := hm.inj [(0, 1)] [(0, 0)] (p2.map ePair) (p0.map ePair) l2 l0 (by simp) (by simp) rfl rfl hl2 hl0 he
    cases this
  have hv0 := vfI_len (e := ePair) I_el p0
  have hv2 := vfI_len (e := ePair) I_el p2
  have ho0 : ∀ v ∈ vfI ePair p0, v.oneCell' = true := fun v hv => oneCell_of_plain (vfI_plain I_ep hv)
  have ho2 : ∀ v ∈ vfI ePair p2, v.oneCell' = true := fun v hv => oneCell_of_plain (vfI_plain I_ep hv)
  have hb0 : l0.b < w.heap.size := lt_of_heap hh0
  have hb2 : l2.b < w.heap.size := lt_of_heap hh2
  have hflat : ∀ (k : Nat) (c : C), ((p0.take i ++ p2 ++ p0.drop i).map ePair).flatten[k]? = some c → ∃ u, c = .v u ∧ plain u = true ∧
      (if k < i * 2 then (vfI ePair p0)[k]? = some u else if k < (i + p2.length) * 2 then (vfI ePair p2)[k - i * 2]? = some u else ((vfI ePair p0).drop (i * 2))[k - (i + p2.length) * 2]? = some u) := fun k c hk => by
    obtain ⟨u, rfl, hu, hx⟩ := vfI_at I_ep hk
    refine ⟨u, rfl, hu, ?_⟩
    rw [vfI_app, vfI_app, ← vfI_take I_el p0 i (by omega), ← vfI_drop I_el p0 i (by omega)] at hx
    have ht : ((vfI ePair p0).take (i * 2)).length = i * 2 := by rw [List.length_take, hv0]; omega
    by_cases h1 : k < i * 2
    · rw [if_pos h1]
      rw [List.getElem?_append_left (by rw [List.length_append, ht]; omega), List.getElem?_append_left (by rw [ht]; exact h1), List.getElem?_take, if_pos h1] at hx
      exact hx
    · rw [if_neg h1]
      by_cases h2 : k < (i + p2.length) * 2
      · rw [if_pos h2]
        rw [List.getElem?_append_left (by rw [List.length_append, ht, hv2]; omega), List.getElem?_append_right (by rw [ht]; omega), ht] at hx
        exact hx
      · rw [if_neg h2]
        rw [List.getElem?_append_right (by rw [List.length_append, ht, hv2]; omega), List.length_append, ht, hv2, ← Nat.add_mul] at hx
        exact hx
  have hown : ownB [[lC 2 ePair p0, lC 2 ePair p2]] γ l0.b := ⟨[(0, 0)], _, l0, by simp, (show getR _ _ = some (p0.map ePair) from rfl), hl0, rfl⟩
  have hlen : (p0.take i ++ p2 ++ p0.drop i).length = p0.length + p2.length := by simp; omega
  have hrow : ∀ r ∈ (p0.take i ++ p2 ++ p0.drop i).map ePair, r.length = 2 := fun r hr => by
    obtain ⟨x, _, rfl⟩ := List.mem_map.1 hr
    rfl
  have hdl : ((vfI ePair p0).drop (i * 2)).length = (p0.length - i) * 2 := by rw [List.length_drop, hv0]; omega
  by_cases hroom : p0.length + p2.length ≤ l0.cap
  · have hend2 : l0.off + (p0.length + p2.length) * 2 ≤ l0.off + l0.cap * 2 := by have := Nat.mul_le_mul_right 2 hroom; omega
    refine (ins_shift l0.b l0.off p0.length l0.cap i l2.b l2.off p2.length l2.cap (vfI ePair p0) (vfI ePair p2) w hin c2 hroom (by omega) hne hv0 hv2 hcell0 (fun j hj => ?_) (fun j hj => frozen_of hh0 (hfz0 _ (by omega) (by omega))) hcell2 ho0 ho2
      e2 e0 cells2.size cells0.size (shape_of hh2) (shape_of hh0) (by omega) (frozen_of hh2 (hfz2 _ (by omega) (by omega))) (frozen_of hh2 (by omega))).mono fun e' w' ⟨v, he, hvv, hw'⟩ => ⟨v, he, ?_⟩
    · simp only [World.cell?, hh0, Option.isSome_none, Bool.false_eq_true, if_false]
      rw [Array.getElem?_eq_getElem (by omega)]
      rfl
    · subst hvv hw'
      obtain ⟨s1, s2, s3, s4⟩ := setCells_same (b := l0.b) ((vfI ePair p0).drop (i * 2)) (l0.off + (i + p2.length) * 2) w.drew
      obtain ⟨t1, t2, t3, t4⟩ := setCells_same (b := l0.b) (vfI ePair p2) (l0.off + i * 2) (w.drew.setCells l0.b (l0.off + (i + p2.length) * 2) ((vfI ePair p0).drop (i * 2)))
      have hoth : ∀ k, k ≠ l0.b → ((w.drew.setCells l0.b (l0.off + (i + p2.length) * 2) ((vfI ePair p0).drop (i * 2))).setCells l0.b (l0.off + i * 2) (vfI ePair p2)).heap[k]? = w.heap[k]? := fun k hk => by
        rw [heap_setCells_ne hk, heap_setCells_ne hk]; rfl
      obtain ⟨ca, ha1, ha2⟩ := heap_setCells (b := l0.b) ((vfI ePair p0).drop (i * 2)) (l0.off + (i + p2.length) * 2) (w := w.drew) hh0
      obtain ⟨cb, hb1, hb2'⟩ := heap_setCells (b := l0.b) (vfI ePair p2) (l0.off + i * 2) ha1
      refine ⟨⟨t1.trans s1, t2.trans s2, t3.trans s3, by rw [t4, s4]; exact Nat.le_refl _, fun k hk hF => hoth k fun hkb => hF 0 ?_, fun k cells e z hk => ?_⟩, S, fun _ => none, fun p => if p = [(0, 0)] then some ⟨l0.b, l0.off, l0.cap, 2⟩ else none, fun _ h => h, fun _ h => .inl h, fun b hb => by rw [t4, s4]; exact hS b hb, ?_, ?_, ?_, ?_, ?_, ?_, ?_⟩
      · subst hkb
        exact ⟨[(0, 0)], _, l0, by simp, (show getR _ _ = some (p0.map ePair) from rfl), hl0, rfl⟩
      · by_cases hkb : k = l0.b
        · subst hkb
          rw [show (baseIO w S [[lC 2 ePair p0, lC 2 ePair p2]] γ).w = w from rfl, hh0] at hk
          cases hk
          exact ⟨cb, hb1, by rw [hb2', ha2], fun o ho => absurd ⟨[(0, 0)], _, l0, by simp, (show getR _ _ = some (p0.map ePair) from rfl), hl0, rfl⟩ ho⟩
        · exact ⟨cells, by rw [hoth k hkb]; exact hk, rfl, fun _ _ => rfl⟩
      · exact MemOK.empty _ _ _
      · exact MemOK.flat hS0 (by simp [hlen]; omega) hrow hb1 (by rw [hb2', ha2]; exact hsz0) (by rw [hb2', ha2]; exact hlh0) hfz0 fun k c hk => by
          obtain ⟨u, rfl, hu, hx⟩ := hflat k c hk
          refine ⟨u, rfl, hu, ?_⟩
          split at hx
          · rename_i h1
            rw [World.cell?_setCells_out l0.b (vfI ePair p2) (l0.off + i * 2) _ ⟨l0.b, l0.off + k, none⟩ (fun _ _ => by show l0.off + k < _ ∨ _; omega), World.cell?_setCells_out l0.b _ (l0.off + (i + p2.length) * 2) _ ⟨l0.b, l0.off + k, none⟩ (fun _ _ => by show l0.off + k < _ ∨ _; omega)]
            exact hcell0 k u hx
          · rename_i h1
            split at hx
            · rename_i h2
              have := setCells_at (o := l0.off + i * 2) (j := k - i * 2) (vs := vfI ePair p2) ha1 (by rw [hv2, ha2]; omega) (by rw [hv2]; omega)
              rw [show l0.off + i * 2 + (k - i * 2) = l0.off + k by omega] at this
              rw [this, hx]
            · rename_i h2
              have hkl := (List.getElem?_eq_some_iff.1 hx).1
              rw [World.cell?_setCells_out l0.b (vfI ePair p2) (l0.off + i * 2) _ ⟨l0.b, l0.off + k, none⟩ (fun _ _ => .inr (by show l0.off + i * 2 + (vfI ePair p2).length ≤ l0.off + k; rw [hv2]; omega))]
              have := setCells_at (w := w.drew) (o := l0.off + (i + p2.length) * 2) (j := k - (i + p2.length) * 2) hh0 (by rw [hdl]; omega) hkl
              rw [show l0.off + (i + p2.length) * 2 + (k - (i + p2.length) * 2) = l0.off + k by omega] at this
              rw [this, hx]
      · exact .inl ⟨⟨l0.b, l0.off, l0.cap, 2⟩, rfl, by rw [List.length_map, hlen], by rw [List.length_map, hlen]; exact hroom⟩
      · intro k c hk; simp at hk
      · intro q rows l hq hr; exact (getR_empty hq hr).elim
      · intro q rows l hq hr hl
        obtain rfl := flat_path (fun r hr c hc => by obtain ⟨x, _, rfl⟩ := List.mem_map.1 hr; exact cl_Pair x c hc) hq hr
        simp only [if_true, Option.some.injEq] at hl
        subst hl
        exact .inr ⟨⟨0, hown⟩, fun _ _ _ => hown⟩
      · intro q rows l q' rows' l' hq hr; exact (getR_empty hq hr).elim
  · have hw0 := ins_grow l0.b l0.off p0.length l0.cap i l2.b l2.off p2.length l2.cap (vfI ePair p0) (vfI ePair p2) w hin c2 (by omega) hcap0 c3 hb2 hb0 hv0 hv2 hcell0 hcell2 ho0 ho2 #[.string ⟨#[]⟩, .string ⟨#[]⟩] rfl ⟨.agg #[.string ⟨#[]⟩, .string ⟨#[]⟩], rfl, by
      obtain ⟨inf, h1, h2, h3, h4⟩ := (tyOK 60 _ rfl).2.1
      exact ⟨inf, h1, h2, h4, h3⟩⟩
    refine hw0.mono fun e' w' ⟨v, he, hvv, hw'⟩ => ⟨v, he, ?_⟩
    subst hvv hw'
    have hG := I_grown w (p0.length + p2.length) l0.cap 60
    generalize hGG : grownCap w (p0.length + p2.length) l0.cap 60 = G at hG ⊢
    have ht : ((vfI ePair p0).take (i * 2)).length = i * 2 := by rw [List.length_take, hv0]; omega
    obtain ⟨A, hA⟩ : ∃ A, A = ((vfI ePair p0).take (i * 2)).toArray ++ Builtin.zeroCells #[.string ⟨#[]⟩, .string ⟨#[]⟩] (p0.length + p2.length - i) ++ Builtin.zeroCells #[.string ⟨#[]⟩, .string ⟨#[]⟩] (G - (p0.length + p2.length)) := ⟨_, rfl⟩
    rw [← hA]
    have hAs : A.size = G * 2 := by
      have h1 := zeroCells_length #[.string ⟨#[]⟩, .string ⟨#[]⟩] (p0.length + p2.length - i)
      have h2 := zeroCells_length #[.string ⟨#[]⟩, .string ⟨#[]⟩] (G - (p0.length + p2.length))
      rw [hA]
      simp only [Array.size_append, List.size_toArray, ht]
      rw [← Array.length_toList (xs := Builtin.zeroCells _ (p0.length + p2.length - i)), ← Array.length_toList (xs := Builtin.zeroCells _ (G - (p0.length + p2.length))), h1, h2]
      show _ + _ * 2 + _ * 2 = _
      omega
    have hnb : (w.drew.alloc (.cells A 60)).heap[w.heap.size]? = some (.cells A 60) := heap_push_eq w.drew _
    obtain ⟨ca, ha1, ha2⟩ := heap_setCells (b := w.heap.size) (vfI ePair p2) (i * 2) hnb
    obtain ⟨cb, hb1, hb2'⟩ := heap_setCells (b := w.heap.size) ((vfI ePair p0).drop (i * 2)) ((i + p2.length) * 2) (w := ((w.drew.alloc (.cells A 60)).setCells w.heap.size (i * 2) (vfI ePair p2)).drew) ha1
    obtain ⟨s1, s2, s3, s4⟩ := setCells_same (b := w.heap.size) (vfI ePair p2) (i * 2) (w.drew.alloc (.cells A 60))
    obtain ⟨t1, t2, t3, t4⟩ := setCells_same (b := w.heap.size) ((vfI ePair p0).drop (i * 2)) ((i + p2.length) * 2) ((w.drew.alloc (.cells A 60)).setCells w.heap.size (i * 2) (vfI ePair p2)).drew
    have hoth : ∀ k, k < w.heap.size → ((((w.drew.alloc (.cells A 60)).setCells w.heap.size (i * 2) (vfI ePair p2)).drew).setCells w.heap.size ((i + p2.length) * 2) ((vfI ePair p0).drop (i * 2))).heap[k]? = w.heap[k]? := fun k hk => by
      rw [heap_setCells_ne (by omega)]
      show ((w.drew.alloc (.cells A 60)).setCells w.heap.size (i * 2) (vfI ePair p2)).heap[k]? = _
      rw [heap_setCells_ne (by omega)]
      exact heap_push_lt w.drew _ hk
    have hsize : w.heap.size + 1 = ((((w.drew.alloc (.cells A 60)).setCells w.heap.size (i * 2) (vfI ePair p2)).drew).setCells w.heap.size ((i + p2.length) * 2) ((vfI ePair p0).drop (i * 2))).heap.size := by
      rw [t4]
      show _ = ((w.drew.alloc (.cells A 60)).setCells w.heap.size (i * 2) (vfI ePair p2)).heap.size
      rw [s4]
      show _ = (w.heap.push _).size
      rw [Array.size_push]
    refine ⟨⟨t1.trans s1, t2.trans s2, t3.trans s3, by rw [← hsize]; exact Nat.le_succ _, fun k hk hF => hoth k hk, fun k cells e z hk => ⟨cells, by rw [hoth k (lt_of_heap hk)]; exact hk, rfl, fun _ _ => rfl⟩⟩, S, fun _ => none, fun p => if p = [(0, 0)] then some ⟨w.heap.size, 0, G, 2⟩ else none, fun _ h => h, fun _ h => .inl h, fun b hb => by rw [← hsize]; have := hS b hb; omega, ?_, ?_, ?_, ?_, ?_, ?_, ?_⟩
    · exact MemOK.empty _ _ _
    · refine MemOK.flat (fun hb => Nat.lt_irrefl _ (hS _ hb)) (by rw [List.length_map, hlen]; exact hG) hrow hb1 (by rw [hb2', ha2, hAs, Nat.zero_add]; exact Nat.le_refl _) (.inl (Nat.zero_le _)) (fun o _ _ => by omega) fun k c hk => ?_
      obtain ⟨u, rfl, hu, hx⟩ := hflat k c hk
      refine ⟨u, rfl, hu, ?_⟩
      rw [Nat.zero_add]
      split at hx
      · rename_i h1
        rw [World.cell?_setCells_out w.heap.size _ ((i + p2.length) * 2) _ ⟨w.heap.size, k, none⟩ (fun _ _ => .inl (by show k < _; omega))]
        show ((w.drew.alloc (.cells A 60)).setCells w.heap.size (i * 2) (vfI ePair p2)).cell? ⟨w.heap.size, k, none⟩ = _
        rw [World.cell?_setCells_out w.heap.size _ (i * 2) _ ⟨w.heap.size, k, none⟩ (fun _ _ => .inl h1)]
        simp only [World.cell?, hnb, Option.isSome_none, Bool.false_eq_true, if_false]
        rw [hA, Array.append_assoc, Array.getElem?_append_left (by simpa [ht] using h1), List.getElem?_toArray, List.getElem?_take, if_pos h1]
        exact hx
      · rename_i h1
        split at hx
        · rename_i h2
          rw [World.cell?_setCells_out w.heap.size _ ((i + p2.length) * 2) _ ⟨w.heap.size, k, none⟩ (fun _ _ => .inl h2)]
          show ((w.drew.alloc (.cells A 60)).setCells w.heap.size (i * 2) (vfI ePair p2)).cell? ⟨w.heap.size, k, none⟩ = _
          have := setCells_at (o := i * 2) (j := k - i * 2) (vs := vfI ePair p2) hnb (by rw [hv2, hAs]; omega) (by rw [hv2]; omega)
          rw [show i * 2 + (k - i * 2) = k by omega] at this
          rw [this, hx]
        · rename_i h2
          have hkl := (List.getElem?_eq_some_iff.1 hx).1
          have := setCells_at (w := ((w.drew.alloc (.cells A 60)).setCells w.heap.size (i * 2) (vfI ePair p2)).drew) (o := (i + p2.length) * 2) (j := k - (i + p2.length) * 2) ha1 (by rw [hdl, ha2, hAs]; omega) hkl
          rw [show (i + p2.length) * 2 + (k - (i + p2.length) * 2) = k by omega] at this
          rw [this, hx]
    · exact .inl ⟨⟨w.heap.size, 0, G, 2⟩, rfl, by rw [List.length_map, hlen], by rw [List.length_map, hlen]; exact hG⟩
    · intro k c hk; simp at hk
    · intro q rows l hq hr; exact (getR_empty hq hr).elim
    · intro q rows l hq hr hl
      obtain rfl := flat_path (fun r hr c hc => by obtain ⟨x, _, rfl⟩ := List.mem_map.1 hr; exact cl_Pair x c hc) hq hr
      simp only [if_true, Option.some.injEq] at hl
      subst hl
      exact .inl (Nat.le_refl _)
    · intro q rows l q' rows' l' hq hr; exact (getR_empty hq hr).elim
end Go.Proofs.Ytagoajkiccgmjaa
namespace Go.Proofs.Ytagoajkiccgmjaa
open Go.Mv Go.RowKit

structure Ss_l01New_1 where
  v3 : Int
  v4 : Int

noncomputable def Bs_l01New_1 (p0 : (List Int)) (s1 : Ss_l01New_1) : Wk (Ss_l01New_1 ⊕ Int) :=
 .jn false (ι := Bool) (fun j => ms 32 [(0, lV 1 eN_u8 p0), (3, iV s1.v3), (4, iV s1.v4), (15, bV j)] [])
 (.p 5 <|
 .cut 12 (decide (s1.v4 < (((((p0).map eN_u8).length : Nat) : Int))))
 (.p 3 <|
 .ret (decide (s1.v4 < 4000)))
 (.p 3 <|
 .ret false)) fun j1 =>
 .ite (j1)
 (.eb <|
 .p 4 <|
 .bnd (getI p0 s1.v4) fun x1 ex1 =>
 .s (.idx eN_u8 ex1) <|
 .p 9 <|
 .ret (.inl ((⟨IntKind.wrap .i64 (((BitVec.ofInt 64 (IntKind.wrap .i64 ((IntKind.wrap .i64 ((IntKind.wrap .i64 (s1.v3 * 137)) + (IntKind.wrap .i64 x1))) + 5)) &&& BitVec.ofInt 64 1073741823).toNat : Nat) : Int), IntKind.wrap .i64 (s1.v4 + 1)⟩ : Ss_l01New_1))))
 (.ret (.inr s1.v3))

noncomputable def ws_l01New (p0 : (List Int)) : Wk (L01Cur) :=
 .p 6 <|
 .jn true (ι := Int) (fun j => ms 32 [(0, lV 1 eN_u8 p0), (3, iV j)] [])
 (.eb <|
 .loop (σ := Ss_l01New_1) (fun s1 => ms 32 [(0, lV 1 eN_u8 p0), (3, iV s1.v3), (4, iV s1.v4)] []) ((⟨IntKind.wrap .i64 (789392 + (((((p0).map eN_u8).length : Nat) : Int))), 0⟩ : Ss_l01New_1)) (Bs_l01New_1 p0)) fun j2 =>
 .p 5 <|
 .ret ((⟨p0, 0, j2⟩ : L01Cur))
/-- spec.l01New -/
noncomputable def s_l01New (p0 : (List Int)) : Option (L01Cur) := (ws_l01New p0).den
theorem k_s_l01New (p0 : (List Int)) (v : L01Cur) (h : s_l01New p0 = some v) : CallOK Try.prog 52 [lV 1 eN_u8 p0] (pV 0) [.bx [.fz (lC 1 eN_u8 v.b), iC v.i, iC v.h]] :=
  (ws_l01New p0).call tyOK Try.func52 rfl (res := (fun v : L01Cur => pV 0)) (row := (fun v : L01Cur => [.bx [.fz (lC 1 eN_u8 v.b), iC v.i, iC v.h]])) (by kernel_rfl) h

structure Xs_l01Byte_1 where
  v3 : Int
  w0_0_1 : Int

noncomputable def ws_l01Byte (p0 : L01Cur) : Wk (L01Cur × Int) :=
 .p 11 <|
 .drawn [] [] (ms 58 [(0, pV 0), (3, iV (IntKind.wrap .i64 (((BitVec.ofInt 64 (IntKind.wrap .i64 (((BitVec.ofInt 64 (Int.fdiv (IntKind.wrap .i64 ((IntKind.wrap .i64 (p0.h * 6364136223846793005)) + 1442695040888963407)) 8589934592) ^^^ BitVec.ofInt 64 (Int.fdiv (IntKind.wrap .i64 ((IntKind.wrap .i64 (p0.h * 6364136223846793005)) + 1442695040888963407)) 35184372088832)).toNat : Nat) : Int)) &&& BitVec.ofInt 64 255).toNat : Nat) : Int)))] [(0, [.bx [.fz (lC 1 eN_u8 p0.b), iC p0.i, iC (IntKind.wrap .i64 ((IntKind.wrap .i64 (p0.h * 6364136223846793005)) + 1442695040888963407))]])]) <|
 .drawn [] [] (ms 58 [(0, pV 0), (3, iV (IntKind.wrap .i64 (((BitVec.ofInt 64 (IntKind.wrap .i64 (((BitVec.ofInt 64 (Int.fdiv (IntKind.wrap .i64 ((IntKind.wrap .i64 (p0.h * 6364136223846793005)) + 1442695040888963407)) 8589934592) ^^^ BitVec.ofInt 64 (Int.fdiv (IntKind.wrap .i64 ((IntKind.wrap .i64 (p0.h * 6364136223846793005)) + 1442695040888963407)) 35184372088832)).toNat : Nat) : Int)) &&& BitVec.ofInt 64 255).toNat : Nat) : Int))), (34, bV (decide (p0.i < (((((p0.b).map eN_u8).length : Nat) : Int)))))] [(0, [.bx [.fz (lC 1 eN_u8 p0.b), iC p0.i, iC (IntKind.wrap .i64 ((IntKind.wrap .i64 (p0.h * 6364136223846793005)) + 1442695040888963407))]])]) <|
 .jn false (ι := Xs_l01Byte_1) (fun j => ms 58 [(0, pV 0), (3, iV j.v3)] [(0, [.bx [.fz (lC 1 eN_u8 p0.b), iC j.w0_0_1, iC (IntKind.wrap .i64 ((IntKind.wrap .i64 (p0.h * 6364136223846793005)) + 1442695040888963407))]])])
 (.ite (decide (p0.i < (((((p0.b).map eN_u8).length : Nat) : Int))))
 (.bnd (getI p0.b p0.i) fun x1 ex1 =>
 .drawn [] [(9, .idx eN_u8 ex1)] (ms 58 [(0, pV 0), (3, iV (IntKind.wrap .i64 (((BitVec.ofInt 64 (IntKind.wrap .i64 ((IntKind.wrap .i64 (((BitVec.ofInt 64 (IntKind.wrap .i64 (((BitVec.ofInt 64 (Int.fdiv (IntKind.wrap .i64 ((IntKind.wrap .i64 (p0.h * 6364136223846793005)) + 1442695040888963407)) 8589934592) ^^^ BitVec.ofInt 64 (Int.fdiv (IntKind.wrap .i64 ((IntKind.wrap .i64 (p0.h * 6364136223846793005)) + 1442695040888963407)) 35184372088832)).toNat : Nat) : Int)) &&& BitVec.ofInt 64 255).toNat : Nat) : Int)) + (IntKind.wrap .i64 x1))) &&& BitVec.ofInt 64 255).toNat : Nat) : Int)))] [(0, [.bx [.fz (lC 1 eN_u8 p0.b), iC p0.i, iC (IntKind.wrap .i64 ((IntKind.wrap .i64 (p0.h * 6364136223846793005)) + 1442695040888963407))]])]) <|
 .p 9 <|
 .ret ((⟨IntKind.wrap .i64 (((BitVec.ofInt 64 (IntKind.wrap .i64 ((IntKind.wrap .i64 (((BitVec.ofInt 64 (IntKind.wrap .i64 (((BitVec.ofInt 64 (Int.fdiv (IntKind.wrap .i64 ((IntKind.wrap .i64 (p0.h * 6364136223846793005)) + 1442695040888963407)) 8589934592) ^^^ BitVec.ofInt 64 (Int.fdiv (IntKind.wrap .i64 ((IntKind.wrap .i64 (p0.h * 6364136223846793005)) + 1442695040888963407)) 35184372088832)).toNat : Nat) : Int)) &&& BitVec.ofInt 64 255).toNat : Nat) : Int)) + (IntKind.wrap .i64 x1))) &&& BitVec.ofInt 64 255).toNat : Nat) : Int), IntKind.wrap .i64 (p0.i + 1)⟩ : Xs_l01Byte_1)))
 (.ret ((⟨IntKind.wrap .i64 (((BitVec.ofInt 64 (IntKind.wrap .i64 (((BitVec.ofInt 64 (Int.fdiv (IntKind.wrap .i64 ((IntKind.wrap .i64 (p0.h * 6364136223846793005)) + 1442695040888963407)) 8589934592) ^^^ BitVec.ofInt 64 (Int.fdiv (IntKind.wrap .i64 ((IntKind.wrap .i64 (p0.h * 6364136223846793005)) + 1442695040888963407)) 35184372088832)).toNat : Nat) : Int)) &&& BitVec.ofInt 64 255).toNat : Nat) : Int), p0.i⟩ : Xs_l01Byte_1)))) fun j1 =>
 .p 2 <|
 .ret (((⟨p0.b, j1.w0_0_1, IntKind.wrap .i64 ((IntKind.wrap .i64 (p0.h * 6364136223846793005)) + 1442695040888963407)⟩ : L01Cur), j1.v3))
/-- spec.l01Byte -/
noncomputable def s_l01Byte (p0 : L01Cur) : Option (L01Cur × Int) := (ws_l01Byte p0).den
theorem k_s_l01Byte (p0 : L01Cur) (v : L01Cur × Int) (h : s_l01Byte p0 = some v) : CallG Try.prog 99 [.bx [.fz (lC 1 eN_u8 p0.b), iC p0.i, iC p0.h]] [pV 0] [.bx [.fz (lC 1 eN_u8 v.1.b), iC v.1.i, iC v.1.h]] (iV v.2) [] :=
  (ws_l01Byte p0).callg tyOK Try.func99 rfl (outs := (fun v : L01Cur × Int => [.bx [.fz (lC 1 eN_u8 v.1.b), iC v.1.i, iC v.1.h]])) (res := (fun v : L01Cur × Int => iV v.2)) (row := (fun v : L01Cur × Int => [])) (Nat.le_of_ble_eq_true rfl) (by kernel_rfl) h

noncomputable def ws_l01Below (p0 : L01Cur) (p1 : Int) : Wk (L01Cur × Int) :=
 .p 3 <|
 .ite (decide (p1 ≤ 0))
 (.p 1 <|
 .ret ((p0, 0)))
 (.p 2 <|
 .ite (decide (p1 ≤ 256))
 (.p 1 <|
 .bnd (s_l01Byte p0) fun r1 er1 =>
 .s (.g (k_s_l01Byte p0 r1 er1) Try.call99 (.bx .nil)) <|
 .p 1 <|
 .chk (((p1 : Int) ≠ 0)) fun c1 =>
 .s (.q c1) <|
 .p 1 <|
 .ret ((r1.1, Int.tmod r1.2 p1)))
 (.p 1 <|
 .bnd (s_l01Byte p0) fun r2 er2 =>
 .s (.g (k_s_l01Byte p0 r2 er2) Try.call99 (.bx .nil)) <|
 .p 2 <|
 .bnd (s_l01Byte r2.1) fun r3 er3 =>
 .s (.g (k_s_l01Byte r2.1 r3 er3) Try.call99 (.bx .nil)) <|
 .p 2 <|
 .bnd (s_l01Byte r3.1) fun r4 er4 =>
 .s (.g (k_s_l01Byte r3.1 r4 er4) Try.call99 (.bx .nil)) <|
 .p 2 <|
 .bnd (s_l01Byte r4.1) fun r5 er5 =>
 .s (.g (k_s_l01Byte r4.1 r5 er5) Try.call99 (.bx .nil)) <|
 .p 12 <|
 .chk (((p1 : Int) ≠ 0)) fun c2 =>
 .s (.q c2) <|
 .p 1 <|
 .ret ((r5.1, Int.tmod (IntKind.wrap .i64 ((IntKind.wrap .i64 ((IntKind.wrap .i64 ((IntKind.wrap .i64 (r2.2 * 16777216)) + (IntKind.wrap .i64 (r3.2 * 65536)))) + (IntKind.wrap .i64 (r4.2 * 256)))) + r5.2)) p1))))
/-- spec.l01Below -/
noncomputable def s_l01Below (p0 : L01Cur) (p1 : Int) : Option (L01Cur × Int) := (ws_l01Below p0 p1).den
theorem k_s_l01Below (p0 : L01Cur) (p1 : Int) (v : L01Cur × Int) (h : s_l01Below p0 p1 = some v) : CallG Try.prog 55 [.bx [.fz (lC 1 eN_u8 p0.b), iC p0.i, iC p0.h]] [pV 0, iV p1] [.bx [.fz (lC 1 eN_u8 v.1.b), iC v.1.i, iC v.1.h]] (iV v.2) [] :=
  (ws_l01Below p0 p1).callg tyOK Try.func55 rfl (outs := (fun v : L01Cur × Int => [.bx [.fz (lC 1 eN_u8 v.1.b), iC v.1.i, iC v.1.h]])) (res := (fun v : L01Cur × Int => iV v.2)) (row := (fun v : L01Cur × Int => [])) (Nat.le_of_ble_eq_true rfl) (by kernel_rfl) h

noncomputable def ws_l08User (p0 : L01Cur) : Wk (L01Cur × ByteArray) :=
 .p 3 <|
 .bnd (s_l01Below p0 24) fun r1 er1 =>
 .s (.g (k_s_l01Below p0 24 r1 er1) Try.call55 (.bx .nil)) <|
 .p 1 <|
 .bnd (getI ([(⟨#[97]⟩ : ByteArray), (⟨#[98]⟩ : ByteArray), (⟨#[99]⟩ : ByteArray), (⟨#[100]⟩ : ByteArray), (⟨#[101]⟩ : ByteArray), (⟨#[102]⟩ : ByteArray), (⟨#[103]⟩ : ByteArray), (⟨#[104]⟩ : ByteArray), (⟨#[97, 97]⟩ : ByteArray), (⟨#[107, 49]⟩ : ByteArray), (⟨#[122, 122, 122, 122, 122, 122, 122, 122]⟩ : ByteArray), (⟨#[0]⟩ : ByteArray)]) (Int.tmod r1.2 12)) fun x1 ex1 =>
 .s (.ixo eStr ex1) <|
 .s (.ld eStr (getI_e ex1).2) <|
 .p 1 <|
 .ret ((r1.1, x1))
/-- spec.l08User -/
noncomputable def s_l08User (p0 : L01Cur) : Option (L01Cur × ByteArray) := (ws_l08User p0).den
theorem k_s_l08User (p0 : L01Cur) (v : L01Cur × ByteArray) (h : s_l08User p0 = some v) : CallG Try.prog 117 [.bx [.fz (lC 1 eN_u8 p0.b), iC p0.i, iC p0.h]] [pV 0] [.bx [.fz (lC 1 eN_u8 v.1.b), iC v.1.i, iC v.1.h]] (sV v.2) [] :=
  (ws_l08User p0).callg tyOK Try.func117 rfl (outs := (fun v : L01Cur × ByteArray => [.bx [.fz (lC 1 eN_u8 v.1.b), iC v.1.i, iC v.1.h]])) (res := (fun v : L01Cur × ByteArray => sV v.2)) (row := (fun v : L01Cur × ByteArray => [])) (Nat.le_of_ble_eq_true rfl) (by kernel_rfl) h

noncomputable def ws_l08Uval (p0 : L01Cur) : Wk (L01Cur × ByteArray) :=
 .p 3 <|
 .bnd (s_l01Below p0 6) fun r1 er1 =>
 .s (.g (k_s_l01Below p0 6 r1 er1) Try.call55 (.bx .nil)) <|
 .bnd (getI ([(⟨#[]⟩ : ByteArray), (⟨#[49]⟩ : ByteArray), (⟨#[50]⟩ : ByteArray), (⟨#[120]⟩ : ByteArray), (⟨#[121, 121]⟩ : ByteArray), (⟨#[49, 50, 51, 52, 53, 54, 55, 56, 57, 48, 49, 50, 51, 52, 53, 54, 55, 56, 57, 48]⟩ : ByteArray)]) r1.2) fun x1 ex1 =>
 .s (.ixo eStr ex1) <|
 .s (.ld eStr (getI_e ex1).2) <|
 .p 1 <|
 .ret ((r1.1, x1))
/-- spec.l08Uval -/
noncomputable def s_l08Uval (p0 : L01Cur) : Option (L01Cur × ByteArray) := (ws_l08Uval p0).den
theorem k_s_l08Uval (p0 : L01Cur) (v : L01Cur × ByteArray) (h : s_l08Uval p0 = some v) : CallG Try.prog 118 [.bx [.fz (lC 1 eN_u8 p0.b), iC p0.i, iC p0.h]] [pV 0] [.bx [.fz (lC 1 eN_u8 v.1.b), iC v.1.i, iC v.1.h]] (sV v.2) [] :=
  (ws_l08Uval p0).callg tyOK Try.func118 rfl (outs := (fun v : L01Cur × ByteArray => [.bx [.fz (lC 1 eN_u8 v.1.b), iC v.1.i, iC v.1.h]])) (res := (fun v : L01Cur × ByteArray => sV v.2)) (row := (fun v : L01Cur × ByteArray => [])) (Nat.le_of_ble_eq_true rfl) (by kernel_rfl) h

structure Xs_l10Put_1 where
  v5 : (List Pair)
  v6 : Bool

structure Ss_l10Put_1 where
  v5 : (List Pair)
  v6 : Bool
  v14 : Int

structure Xs_l10Put_3 where
  v5 : (List Pair)
  v6 : Bool

noncomputable def Bs_l10Put_1 (p0 : (List Pair)) (p1 : Edit) (s1 : Ss_l10Put_1) : Wk (Ss_l10Put_1 ⊕ Xs_l10Put_1) :=
 .p 1 <|
 .ite (decide (s1.v14 < (((((p0).map ePair).length : Nat) : Int))))
 (.eb <|
 .bnd (getI p0 s1.v14) fun x1 ex1 =>
 .s (.idx ePair ex1) <|
 .p 3 <|
 .jn false (ι := Bool) (fun j => ms 56 [(3, pV 3), (5, .one (.so [] 5 0 (((s1.v5).map ePair).length))), (6, bV s1.v6), (8, pV 8), (12, lV 2 ePair p0), (13, iV (((((p0).map ePair).length : Nat) : Int))), (14, iV s1.v14), (26, bV j)] [(3, [.bx [sC p1.key, sC p1.val, bC p1.gone]]), (5, [lC 2 ePair s1.v5]), (8, [.bx [sC x1.key, sC x1.val]])])
 (.p 3 <|
 .cut 20 (!s1.v6)
 (.p 6 <|
 .ret ((Op.bytesLess p1.key.toList x1.key.toList || p1.key.toList == x1.key.toList)))
 (.p 6 <|
 .ret false)) fun j1 =>
 .jn false (ι := Xs_l10Put_3) (fun j => ms 56 [(3, pV 3), (5, .one (.so [] 5 0 (((j.v5).map ePair).length))), (6, bV j.v6), (8, pV 8), (12, lV 2 ePair p0), (13, iV (((((p0).map ePair).length : Nat) : Int))), (14, iV s1.v14)] [(3, [.bx [sC p1.key, sC p1.val, bC p1.gone]]), (5, [lC 2 ePair j.v5]), (8, [.bx [sC x1.key, sC x1.val]])])
 (.ite (j1)
 (.p 7 <|
 .chk (((s1.v5).length + (([(⟨p1.key, p1.val⟩ : Pair)] : List Pair)).length) * 32 ≤ 140737488355328) fun c1 =>
 .s (.app ePair .lit c1) <|
 .p 2 <|
 .im (.ren 34 5 5) <|
 .ret ((⟨s1.v5 ++ ([(⟨p1.key, p1.val⟩ : Pair)] : List Pair), true⟩ : Xs_l10Put_3)))
 (.ret ((⟨s1.v5, s1.v6⟩ : Xs_l10Put_3)))) fun j2 =>
 .p 5 <|
 .jn false (ι := (List Pair)) (fun j => ms 56 [(3, pV 3), (5, .one (.so [] 5 0 (((j).map ePair).length))), (6, bV j2.v6), (12, lV 2 ePair p0), (13, iV (((((p0).map ePair).length : Nat) : Int))), (14, iV s1.v14)] [(3, [.bx [sC p1.key, sC p1.val, bC p1.gone]]), (5, [lC 2 ePair j])])
 (.ite (!(x1.key.toList == p1.key.toList))
 (.p 3 <|
 .chk (((j2.v5).length + (([x1] : List Pair)).length) * 32 ≤ 140737488355328) fun c2 =>
 .s (.app ePair .lit c2) <|
 .p 1 <|
 .im (.ren 43 5 5) <|
 .ret (j2.v5 ++ ([x1] : List Pair)))
 (.ret j2.v5)) fun j3 =>
 .p 2 <|
 .ret (.inl ((⟨j3, j2.v6, IntKind.wrap .i64 (s1.v14 + 1)⟩ : Ss_l10Put_1))))
 (.ret (.inr ((⟨s1.v5, s1.v6⟩ : Xs_l10Put_1))))

noncomputable def ws_l10Put (p0 : (List Pair)) (p1 : Edit) : Wk ((List Pair)) :=
 .p 10 <|
 .jn true (ι := Xs_l10Put_1) (fun j => ms 56 [(3, pV 3), (5, .one (.so [] 5 0 (((j.v5).map ePair).length))), (6, bV j.v6)] [(3, [.bx [sC p1.key, sC p1.val, bC p1.gone]]), (5, [lC 2 ePair j.v5])])
 (.eb <|
 .im (.ren 9 5 5) <|
 .loop (σ := Ss_l10Put_1) (fun s1 => ms 56 [(3, pV 3), (5, .one (.so [] 5 0 (((s1.v5).map ePair).length))), (6, bV s1.v6), (12, lV 2 ePair p0), (13, iV (((((p0).map ePair).length : Nat) : Int))), (14, iV s1.v14)] [(3, [.bx [sC p1.key, sC p1.val, bC p1.gone]]), (5, [lC 2 ePair s1.v5])]) ((⟨[], p1.gone, 0⟩ : Ss_l10Put_1)) (Bs_l10Put_1 p0 p1)) fun j4 =>
 .p 2 <|
 .jn false (ι := (List Pair)) (fun j => ms 56 [(5, .one (.so [] 5 0 (((j).map ePair).length)))] [(5, [lC 2 ePair j])])
 (.ite (!j4.v6)
 (.p 7 <|
 .chk (((j4.v5).length + (([(⟨p1.key, p1.val⟩ : Pair)] : List Pair)).length) * 32 ≤ 140737488355328) fun c3 =>
 .s (.app ePair .lit c3) <|
 .p 1 <|
 .im (.ren 54 5 5) <|
 .ret (j4.v5 ++ ([(⟨p1.key, p1.val⟩ : Pair)] : List Pair)))
 (.ret j4.v5)) fun j5 =>
 .p 2 <|
 .ret j5
/-- spec.l10Put -/
noncomputable def s_l10Put (p0 : (List Pair)) (p1 : Edit) : Option ((List Pair)) := (ws_l10Put p0 p1).den
theorem k_s_l10Put (p0 : (List Pair)) (p1 : Edit) (v : (List Pair)) (h : s_l10Put p0 p1 = some v) : CallOK Try.prog 44 [lV 2 ePair p0, .agg [.c (sC p1.key), .c (sC p1.val), .c (bC p1.gone)]] (.one (.so [] 0 0 (((v).map ePair).length))) [lC 2 ePair v] :=
  (ws_l10Put p0 p1).call tyOK Try.func44 rfl (res := (fun v : (List Pair) => .one (.so [] 0 0 (((v).map ePair).length)))) (row := (fun v : (List Pair) => [lC 2 ePair v])) (by kernel_rfl) h

structure Xs_l13Data_1 where
  v3 : (List Pair)
  w0_0_0 : (List Int)
  w0_0_1 : Int
  w0_0_2 : Int

structure Ss_l13Data_1 where
  v3 : (List Pair)
  v4 : Int
  w0_0_0 : (List Int)
  w0_0_1 : Int
  w0_0_2 : Int

noncomputable def Bs_l13Data_1 (s1 : Ss_l13Data_1) : Wk (Ss_l13Data_1 ⊕ Xs_l13Data_1) :=
 .p 2 <|
 .ite (decide (s1.v4 > 0))
 (.eb <|
 .p 2 <|
 .bnd (s_l08User ((⟨s1.w0_0_0, s1.w0_0_1, s1.w0_0_2⟩ : L01Cur))) fun r2 er2 =>
 .s (.g (k_s_l08User ((⟨s1.w0_0_0, s1.w0_0_1, s1.w0_0_2⟩ : L01Cur)) r2 er2) Try.call117 (.bx .nil)) <|
 .p 1 <|
 .bnd (s_l08Uval r2.1) fun r3 er3 =>
 .s (.g (k_s_l08Uval r2.1 r3 er3) Try.call118 (.bx .nil)) <|
 .p 1 <|
 .bnd (s_l10Put s1.v3 ((⟨r2.2, r3.2, false⟩ : Edit))) fun r4 er4 =>
 .s (.lend (k_s_l10Put s1.v3 ((⟨r2.2, r3.2, false⟩ : Edit)) r4 er4) Try.call44 (clean_cons (clean_map cl_Pair _) (clean_nil))) <|
 .p 4 <|
 .im (.ren 18 3 3) <|
 .ret (.inl ((⟨r4, IntKind.wrap .i64 (s1.v4 - 1), r3.1.b, r3.1.i, r3.1.h⟩ : Ss_l13Data_1))))
 (.ret (.inr ((⟨s1.v3, s1.w0_0_0, s1.w0_0_1, s1.w0_0_2⟩ : Xs_l13Data_1))))

noncomputable def ws_l13Data (p0 : L01Cur) : Wk (L01Cur × (List Pair)) :=
 .p 4 <|
 .bnd (s_l01Below p0 7) fun r1 er1 =>
 .s (.g (k_s_l01Below p0 7 r1 er1) Try.call55 (.bx .nil)) <|
 .p 1 <|
 .jn true (ι := Xs_l13Data_1) (fun j => ms 20 [(0, pV 0), (3, .one (.so [] 3 0 (((j.v3).map ePair).length)))] [(0, [.bx [.fz (lC 1 eN_u8 j.w0_0_0), iC j.w0_0_1, iC j.w0_0_2]]), (3, [lC 2 ePair j.v3])])
 (.eb <|
 .im (.ren 5 3 3) <|
 .loop (σ := Ss_l13Data_1) (fun s1 => ms 20 [(0, pV 0), (3, .one (.so [] 3 0 (((s1.v3).map ePair).length))), (4, iV s1.v4)] [(0, [.bx [.fz (lC 1 eN_u8 s1.w0_0_0), iC s1.w0_0_1, iC s1.w0_0_2]]), (3, [lC 2 ePair s1.v3])]) ((⟨[], r1.2, r1.1.b, r1.1.i, r1.1.h⟩ : Ss_l13Data_1)) (Bs_l13Data_1)) fun j1 =>
 .p 2 <|
 .ret (((⟨j1.w0_0_0, j1.w0_0_1, j1.w0_0_2⟩ : L01Cur), j1.v3))
/-- spec.l13Data -/
noncomputable def s_l13Data (p0 : L01Cur) : Option (L01Cur × (List Pair)) := (ws_l13Data p0).den
theorem k_s_l13Data (p0 : L01Cur) (v : L01Cur × (List Pair)) (h : s_l13Data p0 = some v) : CallG Try.prog 113 [.bx [.fz (lC 1 eN_u8 p0.b), iC p0.i, iC p0.h]] [pV 0] [.bx [.fz (lC 1 eN_u8 v.1.b), iC v.1.i, iC v.1.h]] (.one (.so [] 0 0 (((v.2).map ePair).length))) [lC 2 ePair v.2] :=
  (ws_l13Data p0).callg tyOK Try.func113 rfl (outs := (fun v : L01Cur × (List Pair) => [.bx [.fz (lC 1 eN_u8 v.1.b), iC v.1.i, iC v.1.h]])) (res := (fun v : L01Cur × (List Pair) => .one (.so [] 0 0 (((v.2).map ePair).length)))) (row := (fun v : L01Cur × (List Pair) => [lC 2 ePair v.2])) (Nat.le_of_ble_eq_true rfl) (by kernel_rfl) h

noncomputable def ws_l01Num (p0 : Int) : Wk (Bool) :=
 .p 1 <|
 .jn false (ι := Bool) (fun j => ms 9 [(2, bV j)] [])
 (.p 3 <|
 .cut 5 (decide (p0 ≥ 0))
 (.p 4 <|
 .ret (decide (p0 ≤ 1099511627775)))
 (.p 4 <|
 .ret false)) fun j1 =>
 .ret j1
/-- spec.l01Num -/
noncomputable def s_l01Num (p0 : Int) : Option (Bool) := (ws_l01Num p0).den
theorem k_s_l01Num (p0 : Int) (v : Bool) (h : s_l01Num p0 = some v) : CallOK Try.prog 140 [iV p0] (bV v) [] :=
  (ws_l01Num p0).call tyOK Try.func140 rfl (res := (fun v : Bool => bV v)) (row := (fun v : Bool => [])) (by kernel_rfl) h

noncomputable def ws_NumText (recF : Int → Option (ByteArray)) (hrec : ∀ (p0 : Int) (v : ByteArray), recF p0 = some v → CallOK Try.prog 138 [iV p0] (sV v) []) (p0 : Int) : Wk (ByteArray) :=
 .p 2 <|
 .bnd (s_l01Num p0) fun r1 er1 =>
 .s (.call (k_s_l01Num p0 r1 er1) Try.call140) <|
 .p 1 <|
 .ite (!r1)
 (.p 1 <|
 .ret ((⟨#[]⟩ : ByteArray)))
 (.p 2 <|
 .ite (decide (p0 < 10))
 (.p 6 <|
 .ret (byteB (IntKind.wrap .u8 (IntKind.wrap .i64 (48 + p0)))))
 (.bnd (recF (IntKind.wrap .i64 (Int.tdiv p0 10))) fun r2 er2 =>
 .chk ((r2.size + (byteB (IntKind.wrap .u8 (IntKind.wrap .i64 (48 + (Int.tmod p0 10))))).size ≤ 140737488355328)) fun c1 =>
 .drawn [] [(2, .call (hrec (IntKind.wrap .i64 (Int.tdiv p0 10)) r2 er2) Try.call138), (9, .q c1)] (ms 23 [(2, sV (r2 ++ (byteB (IntKind.wrap .u8 (IntKind.wrap .i64 (48 + (Int.tmod p0 10)))))))] []) <|
 .ret (r2 ++ (byteB (IntKind.wrap .u8 (IntKind.wrap .i64 (48 + (Int.tmod p0 10))))))))
/-- spec.NumText -/
theorem kF_s_NumText (recF : Int → Option (ByteArray)) (hrec : ∀ (p0 : Int) (v : ByteArray), recF p0 = some v → CallOK Try.prog 138 [iV p0] (sV v) []) (p0 : Int) (v : ByteArray) (h : (ws_NumText recF hrec p0).den = some v) : CallOK Try.prog 138 [iV p0] (sV v) [] :=
  (ws_NumText recF hrec p0).call tyOK Try.func138 rfl (res := (fun v : ByteArray => sV v)) (row := (fun v : ByteArray => [])) (by kernel_rfl) h
noncomputable def s_NumText_R : Nat → { recF : Int → Option (ByteArray) // ∀ (p0 : Int) (v : ByteArray), recF p0 = some v → CallOK Try.prog 138 [iV p0] (sV v) [] }
  | 0 => ⟨fun _ => none, fun _ _ h => nomatch h⟩
  | k + 1 => ⟨fun p0 => (ws_NumText (s_NumText_R k).1 (s_NumText_R k).2 p0).den, fun p0 v h => kF_s_NumText (s_NumText_R k).1 (s_NumText_R k).2 p0 v h⟩
noncomputable def s_NumText (p0 : Int) : Option (ByteArray) := lim fun k => (s_NumText_R k).1 p0
theorem k_s_NumText (p0 : Int) (v : ByteArray) (h : s_NumText p0 = some v) : CallOK Try.prog 138 [iV p0] (sV v) [] := by
  obtain ⟨k, hk⟩ := lim_e h
  exact (s_NumText_R k).2 p0 v hk

noncomputable def ws_l02Key (p0 : L01Cur) : Wk (L01Cur × ByteArray) :=
 .p 2 <|
 .bnd (s_l01Below p0 20) fun r1 er1 =>
 .s (.g (k_s_l01Below p0 20 r1 er1) Try.call55 (.bx .nil)) <|
 .p 3 <|
 .ite (decide (r1.2 < 16))
 (.p 2 <|
 .bnd (getI ([(⟨#[97]⟩ : ByteArray), (⟨#[98]⟩ : ByteArray), (⟨#[99]⟩ : ByteArray), (⟨#[100]⟩ : ByteArray), (⟨#[101]⟩ : ByteArray), (⟨#[102]⟩ : ByteArray), (⟨#[103]⟩ : ByteArray), (⟨#[104]⟩ : ByteArray), (⟨#[107]⟩ : ByteArray), (⟨#[109]⟩ : ByteArray), (⟨#[112]⟩ : ByteArray), (⟨#[113]⟩ : ByteArray), (⟨#[97, 97]⟩ : ByteArray), (⟨#[97, 98]⟩ : ByteArray), (⟨#[120]⟩ : ByteArray), (⟨#[121]⟩ : ByteArray)]) r1.2) fun x1 ex1 =>
 .s (.ixo eStr ex1) <|
 .s (.ld eStr (getI_e ex1).2) <|
 .p 1 <|
 .ret ((r1.1, x1)))
 (.p 2 <|
 .ite ((r1.2 == 16))
 (.p 1 <|
 .ret ((r1.1, (⟨#[0]⟩ : ByteArray))))
 (.p 2 <|
 .ite ((r1.2 == 17))
 (.p 1 <|
 .ret ((r1.1, (⟨#[122, 122, 122, 122, 122, 122, 122, 122, 122, 122, 122, 122, 122, 122, 122, 122]⟩ : ByteArray))))
 (.p 1 <|
 .bnd (s_l01Below r1.1 30) fun r2 er2 =>
 .s (.g (k_s_l01Below r1.1 30 r2 er2) Try.call55 (.bx .nil)) <|
 .bnd (s_NumText r2.2) fun r3 er3 =>
 .s (.call (k_s_NumText r2.2 r3 er3) Try.call138) <|
 .chk ((((⟨#[107]⟩ : ByteArray)).size + r3.size ≤ 140737488355328)) fun c1 =>
 .s (.q c1) <|
 .p 1 <|
 .ret ((r2.1, ((⟨#[107]⟩ : ByteArray)) ++ r3)))))
/-- spec.l02Key -/
noncomputable def s_l02Key (p0 : L01Cur) : Option (L01Cur × ByteArray) := (ws_l02Key p0).den
theorem k_s_l02Key (p0 : L01Cur) (v : L01Cur × ByteArray) (h : s_l02Key p0 = some v) : CallG Try.prog 128 [.bx [.fz (lC 1 eN_u8 p0.b), iC p0.i, iC p0.h]] [pV 0] [.bx [.fz (lC 1 eN_u8 v.1.b), iC v.1.i, iC v.1.h]] (sV v.2) [] :=
  (ws_l02Key p0).callg tyOK Try.func128 rfl (outs := (fun v : L01Cur × ByteArray => [.bx [.fz (lC 1 eN_u8 v.1.b), iC v.1.i, iC v.1.h]])) (res := (fun v : L01Cur × ByteArray => sV v.2)) (row := (fun v : L01Cur × ByteArray => [])) (Nat.le_of_ble_eq_true rfl) (by kernel_rfl) h

noncomputable def ws_l02AnyKey (p0 : L01Cur) : Wk (L01Cur × ByteArray) :=
 .p 2 <|
 .bnd (s_l01Below p0 8) fun r1 er1 =>
 .s (.g (k_s_l01Below p0 8 r1 er1) Try.call55 (.bx .nil)) <|
 .p 1 <|
 .ite ((r1.2 == 0))
 (.p 2 <|
 .bnd (s_l01Below r1.1 4) fun r2 er2 =>
 .s (.g (k_s_l01Below r1.1 4 r2 er2) Try.call55 (.bx .nil)) <|
 .bnd (getI ([(⟨#[]⟩ : ByteArray), (⟨#[122, 122, 122, 122, 122, 122, 122, 122, 122, 122, 122, 122, 122, 122, 122, 122, 122]⟩ : ByteArray), (⟨#[97, 0]⟩ : ByteArray), (⟨#[255]⟩ : ByteArray)]) r2.2) fun x1 ex1 =>
 .s (.ixo eStr ex1) <|
 .s (.ld eStr (getI_e ex1).2) <|
 .p 1 <|
 .ret ((r2.1, x1)))
 (.p 1 <|
 .bnd (s_l02Key r1.1) fun r3 er3 =>
 .s (.g (k_s_l02Key r1.1 r3 er3) Try.call128 (.bx .nil)) <|
 .p 1 <|
 .ret ((r3.1, r3.2)))
/-- spec.l02AnyKey -/
noncomputable def s_l02AnyKey (p0 : L01Cur) : Option (L01Cur × ByteArray) := (ws_l02AnyKey p0).den
theorem k_s_l02AnyKey (p0 : L01Cur) (v : L01Cur × ByteArray) (h : s_l02AnyKey p0 = some v) : CallG Try.prog 114 [.bx [.fz (lC 1 eN_u8 p0.b), iC p0.i, iC p0.h]] [pV 0] [.bx [.fz (lC 1 eN_u8 v.1.b), iC v.1.i, iC v.1.h]] (sV v.2) [] :=
  (ws_l02AnyKey p0).callg tyOK Try.func114 rfl (outs := (fun v : L01Cur × ByteArray => [.bx [.fz (lC 1 eN_u8 v.1.b), iC v.1.i, iC v.1.h]])) (res := (fun v : L01Cur × ByteArray => sV v.2)) (row := (fun v : L01Cur × ByteArray => [])) (Nat.le_of_ble_eq_true rfl) (by kernel_rfl) h

noncomputable def ws_l02Val (p0 : L01Cur) : Wk (L01Cur × ByteArray) :=
 .p 2 <|
 .bnd (s_l01Below p0 12) fun r1 er1 =>
 .s (.g (k_s_l01Below p0 12 r1 er1) Try.call55 (.bx .nil)) <|
 .p 3 <|
 .ite ((r1.2 == 0))
 (.p 1 <|
 .ret ((r1.1, (⟨#[]⟩ : ByteArray))))
 (.p 2 <|
 .ite ((r1.2 == 1))
 (.chk (0 ≤ (60 : Int) ∧ (60 : Int).toNat * 1 ≤ 140737488355328) fun c1 =>
 .s (.make eN_u8 0 c1) <|
 .chk (∀ n ∈ (List.replicate (60 : Int).toNat 0 : List Int), 0 ≤ n ∧ n < 256) fun c2 =>
 .s (.str c2) <|
 .p 1 <|
 .ret ((r1.1, strOfNums (List.replicate (60 : Int).toNat 0))))
 (.p 1 <|
 .bnd (s_l01Below r1.1 50) fun r2 er2 =>
 .s (.g (k_s_l01Below r1.1 50 r2 er2) Try.call55 (.bx .nil)) <|
 .bnd (s_NumText r2.2) fun r3 er3 =>
 .s (.call (k_s_NumText r2.2 r3 er3) Try.call138) <|
 .chk ((((⟨#[118]⟩ : ByteArray)).size + r3.size ≤ 140737488355328)) fun c3 =>
 .s (.q c3) <|
 .p 1 <|
 .ret ((r2.1, ((⟨#[118]⟩ : ByteArray)) ++ r3))))
/-- spec.l02Val -/
noncomputable def s_l02Val (p0 : L01Cur) : Option (L01Cur × ByteArray) := (ws_l02Val p0).den
theorem k_s_l02Val (p0 : L01Cur) (v : L01Cur × ByteArray) (h : s_l02Val p0 = some v) : CallG Try.prog 133 [.bx [.fz (lC 1 eN_u8 p0.b), iC p0.i, iC p0.h]] [pV 0] [.bx [.fz (lC 1 eN_u8 v.1.b), iC v.1.i, iC v.1.h]] (sV v.2) [] :=
  (ws_l02Val p0).callg tyOK Try.func133 rfl (outs := (fun v : L01Cur × ByteArray => [.bx [.fz (lC 1 eN_u8 v.1.b), iC v.1.i, iC v.1.h]])) (res := (fun v : L01Cur × ByteArray => sV v.2)) (row := (fun v : L01Cur × ByteArray => [])) (Nat.le_of_ble_eq_true rfl) (by kernel_rfl) h

noncomputable def ws_l02AnyVal (p0 : L01Cur) : Wk (L01Cur × ByteArray) :=
 .p 2 <|
 .bnd (s_l01Below p0 14) fun r1 er1 =>
 .s (.g (k_s_l01Below p0 14 r1 er1) Try.call55 (.bx .nil)) <|
 .p 1 <|
 .ite ((r1.2 == 0))
 (.chk (0 ≤ (61 : Int) ∧ (61 : Int).toNat * 1 ≤ 140737488355328) fun c1 =>
 .s (.make eN_u8 0 c1) <|
 .chk (∀ n ∈ (List.replicate (61 : Int).toNat 0 : List Int), 0 ≤ n ∧ n < 256) fun c2 =>
 .s (.str c2) <|
 .p 1 <|
 .ret ((r1.1, strOfNums (List.replicate (61 : Int).toNat 0))))
 (.p 1 <|
 .bnd (s_l02Val r1.1) fun r2 er2 =>
 .s (.g (k_s_l02Val r1.1 r2 er2) Try.call133 (.bx .nil)) <|
 .p 1 <|
 .ret ((r2.1, r2.2)))
/-- spec.l02AnyVal -/
noncomputable def s_l02AnyVal (p0 : L01Cur) : Option (L01Cur × ByteArray) := (ws_l02AnyVal p0).den
theorem k_s_l02AnyVal (p0 : L01Cur) (v : L01Cur × ByteArray) (h : s_l02AnyVal p0 = some v) : CallG Try.prog 115 [.bx [.fz (lC 1 eN_u8 p0.b), iC p0.i, iC p0.h]] [pV 0] [.bx [.fz (lC 1 eN_u8 v.1.b), iC v.1.i, iC v.1.h]] (sV v.2) [] :=
  (ws_l02AnyVal p0).callg tyOK Try.func115 rfl (outs := (fun v : L01Cur × ByteArray => [.bx [.fz (lC 1 eN_u8 v.1.b), iC v.1.i, iC v.1.h]])) (res := (fun v : L01Cur × ByteArray => sV v.2)) (row := (fun v : L01Cur × ByteArray => [])) (Nat.le_of_ble_eq_true rfl) (by kernel_rfl) h


end Go.Proofs.Ytagoajkiccgmjaa
namespace Go.Proofs.Ytagoajkiccgmjaa
open Go.Mv Go.RowKit

structure Xs_l13Any_1 where
  v13 : Bool
  w0_0_0 : (List Int)
  w0_0_1 : Int
  w0_0_2 : Int

structure Xs_l13Any_2 where
  w0_0_0 : (List Int)
  w0_0_1 : Int
  w0_0_2 : Int
  w5_0 : (List Pair)

noncomputable def ws_l13Any (p0 : L01Cur) : Wk (L01Cur × (List Pair)) :=
 .p 2 <|
 .bnd (s_l13Data p0) fun r1 er1 =>
 .s (.g (k_s_l13Data p0 r1 er1) Try.call113 (.bx .nil)) <|
 .p 1 <|
 .jn false (ι := Xs_l13Any_1) (fun j => ms 26 [(0, pV 0), (3, .one (.so [] 5 0 (((r1.2).map ePair).length))), (13, bV j.v13)] [(0, [.bx [.fz (lC 1 eN_u8 j.w0_0_0), iC j.w0_0_1, iC j.w0_0_2]]), (5, [lC 2 ePair r1.2])])
 (.p 4 <|
 .cut 9 (decide ((((((r1.2).map ePair).length : Nat) : Int)) > 0))
 (.p 1 <|
 .bnd (s_l01Below r1.1 8) fun r2 er2 =>
 .s (.g (k_s_l01Below r1.1 8 r2 er2) Try.call55 (.bx .nil)) <|
 .p 2 <|
 .ret ((⟨(r2.2 == 0), r2.1.b, r2.1.i, r2.1.h⟩ : Xs_l13Any_1)))
 (.p 4 <|
 .ret ((⟨false, r1.1.b, r1.1.i, r1.1.h⟩ : Xs_l13Any_1)))) fun j1 =>
 .jn false (ι := Xs_l13Any_2) (fun j => ms 26 [(0, pV 0), (3, .one (.so [] 5 0 (((j.w5_0).map ePair).length)))] [(0, [.bx [.fz (lC 1 eN_u8 j.w0_0_0), iC j.w0_0_1, iC j.w0_0_2]]), (5, [lC 2 ePair j.w5_0])])
 (.ite (j1.v13)
 (.p 4 <|
 .bnd (s_l01Below ((⟨j1.w0_0_0, j1.w0_0_1, j1.w0_0_2⟩ : L01Cur)) (((((r1.2).map ePair).length : Nat) : Int))) fun r2 er2 =>
 .s (.g (k_s_l01Below ((⟨j1.w0_0_0, j1.w0_0_1, j1.w0_0_2⟩ : L01Cur)) (((((r1.2).map ePair).length : Nat) : Int)) r2 er2) Try.call55 (.bx .nil)) <|
 .p 1 <|
 .bnd (s_l02AnyKey r2.1) fun r3 er3 =>
 .s (.g (k_s_l02AnyKey r2.1 r3 er3) Try.call114 (.bx .nil)) <|
 .p 1 <|
 .bnd (s_l02AnyVal r3.1) fun r4 er4 =>
 .s (.g (k_s_l02AnyVal r3.1 r4 er4) Try.call115 (.bx .nil)) <|
 .p 1 <|
 .bnd (getI r1.2 r2.2) fun x1 ex1 =>
 .s (.ixo ePair ex1) <|
 .s (.st ePair ((⟨r3.2, r4.2⟩ : Pair)) (getI_e ex1).2 rfl) <|
 .im (.says 3 (show (.one (.so [] 5 0 (((r1.2).map ePair).length)) : TV) = .one (.so [] 5 0 (((r1.2.set ((r2.2).toNat) ((⟨r3.2, r4.2⟩ : Pair))).map ePair).length)) by simp <;> omega)) <|
 .ret ((⟨r4.1.b, r4.1.i, r4.1.h, r1.2.set ((r2.2).toNat) ((⟨r3.2, r4.2⟩ : Pair))⟩ : Xs_l13Any_2)))
 (.ret ((⟨j1.w0_0_0, j1.w0_0_1, j1.w0_0_2, r1.2⟩ : Xs_l13Any_2)))) fun j2 =>
 .p 2 <|
 .ret (((⟨j2.w0_0_0, j2.w0_0_1, j2.w0_0_2⟩ : L01Cur), j2.w5_0))
/-- spec.l13Any -/
noncomputable def s_l13Any (p0 : L01Cur) : Option (L01Cur × (List Pair)) := (ws_l13Any p0).den
theorem k_s_l13Any (p0 : L01Cur) (v : L01Cur × (List Pair)) (h : s_l13Any p0 = some v) : CallG Try.prog 71 [.bx [.fz (lC 1 eN_u8 p0.b), iC p0.i, iC p0.h]] [pV 0] [.bx [.fz (lC 1 eN_u8 v.1.b), iC v.1.i, iC v.1.h]] (.one (.so [] 0 0 (((v.2).map ePair).length))) [lC 2 ePair v.2] :=
  (ws_l13Any p0).callg tyOK Try.func71 rfl (outs := (fun v : L01Cur × (List Pair) => [.bx [.fz (lC 1 eN_u8 v.1.b), iC v.1.i, iC v.1.h]])) (res := (fun v : L01Cur × (List Pair) => .one (.so [] 0 0 (((v.2).map ePair).length)))) (row := (fun v : L01Cur × (List Pair) => [lC 2 ePair v.2])) (Nat.le_of_ble_eq_true rfl) (by kernel_rfl) h

noncomputable def ws_KeyOk (p0 : ByteArray) : Wk (Bool) :=
 .p 1 <|
 .jn false (ι := Bool) (fun j => ms 11 [(2, bV j)] [])
 (.p 4 <|
 .cut 6 (decide (((p0.size : Int)) ≥ 1))
 (.p 5 <|
 .ret (decide (((p0.size : Int)) ≤ 16)))
 (.p 5 <|
 .ret false)) fun j1 =>
 .ret j1
/-- spec.KeyOk -/
noncomputable def s_KeyOk (p0 : ByteArray) : Option (Bool) := (ws_KeyOk p0).den
theorem k_s_KeyOk (p0 : ByteArray) (v : Bool) (h : s_KeyOk p0 = some v) : CallOK Try.prog 87 [sV p0] (bV v) [] :=
  (ws_KeyOk p0).call tyOK Try.func87 rfl (res := (fun v : Bool => bV v)) (row := (fun v : Bool => [])) (by kernel_rfl) h

noncomputable def ws_PointOf (p0 : ByteArray) : Wk (Range) :=
 .p 2 <|
 .bnd (s_KeyOk p0) fun r1 er1 =>
 .s (.call (k_s_KeyOk p0 r1 er1) Try.call87) <|
 .p 1 <|
 .ite (!r1)
 (.p 2 <|
 .ret ((⟨(⟨#[]⟩ : ByteArray), (⟨#[]⟩ : ByteArray)⟩ : Range)))
 (.p 2 <|
 .chk ((p0.size + ((⟨#[0]⟩ : ByteArray)).size ≤ 140737488355328)) fun c1 =>
 .s (.q c1) <|
 .p 2 <|
 .ret ((⟨p0, p0 ++ ((⟨#[0]⟩ : ByteArray))⟩ : Range)))
/-- spec.PointOf -/
noncomputable def s_PointOf (p0 : ByteArray) : Option (Range) := (ws_PointOf p0).den
theorem k_s_PointOf (p0 : ByteArray) (v : Range) (h : s_PointOf p0 = some v) : CallOK Try.prog 129 [sV p0] (.agg [.c (sC v.lo), .c (sC v.hi)]) [] :=
  (ws_PointOf p0).call tyOK Try.func129 rfl (res := (fun v : Range => .agg [.c (sC v.lo), .c (sC v.hi)])) (row := (fun v : Range => [])) (by kernel_rfl) h

noncomputable def ws_l08Reach (p0 : L01Cur) : Wk (L01Cur × Range) :=
 .p 2 <|
 .bnd (s_l08User p0) fun r1 er1 =>
 .s (.g (k_s_l08User p0 r1 er1) Try.call117 (.bx .nil)) <|
 .p 2 <|
 .bnd (s_l08User r1.1) fun r2 er2 =>
 .s (.g (k_s_l08User r1.1 r2 er2) Try.call117 (.bx .nil)) <|
 .p 4 <|
 .ite (!Op.bytesLess r1.2.toList r2.2.toList)
 (.p 1 <|
 .bnd (s_PointOf r1.2) fun r3 er3 =>
 .s (.call (k_s_PointOf r1.2 r3 er3) Try.call129) <|
 .p 1 <|
 .ret ((r2.1, r3)))
 (.p 1 <|
 .bnd (s_l01Below r2.1 4) fun r4 er4 =>
 .s (.g (k_s_l01Below r2.1 4 r4 er4) Try.call55 (.bx .nil)) <|
 .p 1 <|
 .ite ((r4.2 == 0))
 (.p 3 <|
 .ret ((r4.1, (⟨r1.2, (⟨#[]⟩ : ByteArray)⟩ : Range))))
 (.p 4 <|
 .ret ((r4.1, (⟨r1.2, r2.2⟩ : Range)))))
/-- spec.l08Reach -/
noncomputable def s_l08Reach (p0 : L01Cur) : Option (L01Cur × Range) := (ws_l08Reach p0).den
theorem k_s_l08Reach (p0 : L01Cur) (v : L01Cur × Range) (h : s_l08Reach p0 = some v) : CallG Try.prog 116 [.bx [.fz (lC 1 eN_u8 p0.b), iC p0.i, iC p0.h]] [pV 0] [.bx [.fz (lC 1 eN_u8 v.1.b), iC v.1.i, iC v.1.h]] (.agg [.c (sC v.2.lo), .c (sC v.2.hi)]) [] :=
  (ws_l08Reach p0).callg tyOK Try.func116 rfl (outs := (fun v : L01Cur × Range => [.bx [.fz (lC 1 eN_u8 v.1.b), iC v.1.i, iC v.1.h]])) (res := (fun v : L01Cur × Range => .agg [.c (sC v.2.lo), .c (sC v.2.hi)])) (row := (fun v : L01Cur × Range => [])) (Nat.le_of_ble_eq_true rfl) (by kernel_rfl) h

structure Xs_l09Ask_1 where
  w0_0_0 : (List Int)
  w0_0_1 : Int
  w0_0_2 : Int
  w4_0_2 : ByteArray

noncomputable def ws_l09Ask (p0 : L01Cur) : Wk (L01Cur × Ask) :=
 .p 2 <|
 .bnd (s_l01Below p0 4) fun r1 er1 =>
 .s (.g (k_s_l01Below p0 4 r1 er1) Try.call55 (.bx .nil)) <|
 .p 8 <|
 .ite (((IntKind.wrap .i64 (1 + r1.2)) == 4))
 (.p 1 <|
 .bnd (s_l08Reach r1.1) fun r2 er2 =>
 .s (.g (k_s_l08Reach r1.1 r2 er2) Try.call116 (.bx .nil)) <|
 .p 3 <|
 .bnd (s_l01Below r2.1 8) fun r3 er3 =>
 .s (.g (k_s_l01Below r2.1 8 r3 er3) Try.call55 (.bx .nil)) <|
 .p 4 <|
 .bnd (s_l01Below r3.1 2) fun r4 er4 =>
 .s (.g (k_s_l01Below r3.1 2 r4 er4) Try.call55 (.bx .nil)) <|
 .p 5 <|
 .ret ((r4.1, (⟨IntKind.wrap .i64 (1 + r1.2), (⟨#[]⟩ : ByteArray), (⟨#[]⟩ : ByteArray), r2.2, IntKind.wrap .i64 (1 + r3.2), (r4.2 == 0)⟩ : Ask))))
 (.p 1 <|
 .bnd (s_l08User r1.1) fun r5 er5 =>
 .s (.g (k_s_l08User r1.1 r5 er5) Try.call117 (.bx .nil)) <|
 .p 4 <|
 .jn false (ι := Xs_l09Ask_1) (fun j => ms 33 [(0, pV 0), (2, pV 2), (4, pV 4)] [(0, [.bx [.fz (lC 1 eN_u8 j.w0_0_0), iC j.w0_0_1, iC j.w0_0_2]]), (2, [.bx [iC 0, sC ((⟨#[]⟩ : ByteArray)), sC ((⟨#[]⟩ : ByteArray)), sC ((⟨#[]⟩ : ByteArray)), sC ((⟨#[]⟩ : ByteArray)), iC 0, bC false]]), (4, [.bx [iC (IntKind.wrap .i64 (1 + r1.2)), sC r5.2, sC j.w4_0_2, sC ((⟨#[]⟩ : ByteArray)), sC ((⟨#[]⟩ : ByteArray)), iC 0, bC false]])])
 (.ite (((IntKind.wrap .i64 (1 + r1.2)) == 2))
 (.p 1 <|
 .bnd (s_l08Uval r5.1) fun r6 er6 =>
 .s (.g (k_s_l08Uval r5.1 r6 er6) Try.call118 (.bx .nil)) <|
 .p 2 <|
 .ret ((⟨r6.1.b, r6.1.i, r6.1.h, r6.2⟩ : Xs_l09Ask_1)))
 (.ret ((⟨r5.1.b, r5.1.i, r5.1.h, (⟨#[]⟩ : ByteArray)⟩ : Xs_l09Ask_1)))) fun j1 =>
 .p 2 <|
 .ret (((⟨j1.w0_0_0, j1.w0_0_1, j1.w0_0_2⟩ : L01Cur), (⟨IntKind.wrap .i64 (1 + r1.2), r5.2, j1.w4_0_2, (⟨(⟨#[]⟩ : ByteArray), (⟨#[]⟩ : ByteArray)⟩ : Range), 0, false⟩ : Ask))))
/-- spec.l09Ask -/
noncomputable def s_l09Ask (p0 : L01Cur) : Option (L01Cur × Ask) := (ws_l09Ask p0).den
theorem k_s_l09Ask (p0 : L01Cur) (v : L01Cur × Ask) (h : s_l09Ask p0 = some v) : CallG Try.prog 72 [.bx [.fz (lC 1 eN_u8 p0.b), iC p0.i, iC p0.h]] [pV 0] [.bx [.fz (lC 1 eN_u8 v.1.b), iC v.1.i, iC v.1.h]] (.agg [.c (iC v.2.kind), .c (sC v.2.key), .c (sC v.2.val), .c (sC v.2.range.lo), .c (sC v.2.range.hi), .c (iC v.2.most), .c (bC v.2.back)]) [] :=
  (ws_l09Ask p0).callg tyOK Try.func72 rfl (outs := (fun v : L01Cur × Ask => [.bx [.fz (lC 1 eN_u8 v.1.b), iC v.1.i, iC v.1.h]])) (res := (fun v : L01Cur × Ask => .agg [.c (iC v.2.kind), .c (sC v.2.key), .c (sC v.2.val), .c (sC v.2.range.lo), .c (sC v.2.range.hi), .c (iC v.2.most), .c (bC v.2.back)])) (row := (fun v : L01Cur × Ask => [])) (Nat.le_of_ble_eq_true rfl) (by kernel_rfl) h

noncomputable def ws_l01Raw (p0 : L01Cur) : Wk (L01Cur × Int) :=
 .p 2 <|
 .bnd (s_l01Below p0 10) fun r1 er1 =>
 .s (.g (k_s_l01Below p0 10 r1 er1) Try.call55 (.bx .nil)) <|
 .p 3 <|
 .ite (decide (r1.2 < 4))
 (.p 1 <|
 .bnd (s_l01Below r1.1 20) fun r2 er2 =>
 .s (.g (k_s_l01Below r1.1 20 r2 er2) Try.call55 (.bx .nil)) <|
 .p 1 <|
 .ret ((r2.1, r2.2)))
 (.p 2 <|
 .ite ((r1.2 == 4))
 (.p 1 <|
 .bnd (s_l01Below r1.1 3) fun r3 er3 =>
 .s (.g (k_s_l01Below r1.1 3 r3 er3) Try.call55 (.bx .nil)) <|
 .p 2 <|
 .ret ((r3.1, IntKind.wrap .i64 (1099511627774 + r3.2))))
 (.p 2 <|
 .ite ((r1.2 == 5))
 (.p 1 <|
 .bnd (s_l01Below r1.1 2) fun r4 er4 =>
 .s (.g (k_s_l01Below r1.1 2 r4 er4) Try.call55 (.bx .nil)) <|
 .p 2 <|
 .ret ((r4.1, IntKind.wrap .i64 ((-1) - r4.2))))
 (.p 2 <|
 .ite ((r1.2 == 6))
 (.p 1 <|
 .bnd (s_l01Below r1.1 2) fun r5 er5 =>
 .s (.g (k_s_l01Below r1.1 2 r5 er5) Try.call55 (.bx .nil)) <|
 .p 2 <|
 .ret ((r5.1, IntKind.wrap .i64 (9223372036854775807 - r5.2))))
 (.p 2 <|
 .ite ((r1.2 == 7))
 (.p 1 <|
 .bnd (s_l01Below r1.1 2) fun r6 er6 =>
 .s (.g (k_s_l01Below r1.1 2 r6 er6) Try.call55 (.bx .nil)) <|
 .p 2 <|
 .ret ((r6.1, IntKind.wrap .i64 ((-9223372036854775807) - r6.2))))
 (.p 2 <|
 .ite ((r1.2 == 8))
 (.p 2 <|
 .bnd (s_l01Below r1.1 8) fun r7 er7 =>
 .s (.g (k_s_l01Below r1.1 8 r7 er7) Try.call55 (.bx .nil)) <|
 .bnd (getI ([127, 128, 16383, 16384, 255, 256, 4096, 4097]) r7.2) fun x1 ex1 =>
 .s (.ixo eInt ex1) <|
 .s (.ld eInt (getI_e ex1).2) <|
 .p 1 <|
 .ret ((r7.1, x1)))
 (.p 1 <|
 .bnd (s_l01Below r1.1 65536) fun r8 er8 =>
 .s (.g (k_s_l01Below r1.1 65536 r8 er8) Try.call55 (.bx .nil)) <|
 .p 2 <|
 .ret ((r8.1, IntKind.wrap .i64 (r8.2 * 257)))))))))
/-- spec.l01Raw -/
noncomputable def s_l01Raw (p0 : L01Cur) : Option (L01Cur × Int) := (ws_l01Raw p0).den
theorem k_s_l01Raw (p0 : L01Cur) (v : L01Cur × Int) (h : s_l01Raw p0 = some v) : CallG Try.prog 100 [.bx [.fz (lC 1 eN_u8 p0.b), iC p0.i, iC p0.h]] [pV 0] [.bx [.fz (lC 1 eN_u8 v.1.b), iC v.1.i, iC v.1.h]] (iV v.2) [] :=
  (ws_l01Raw p0).callg tyOK Try.func100 rfl (outs := (fun v : L01Cur × Int => [.bx [.fz (lC 1 eN_u8 v.1.b), iC v.1.i, iC v.1.h]])) (res := (fun v : L01Cur × Int => iV v.2)) (row := (fun v : L01Cur × Int => [])) (Nat.le_of_ble_eq_true rfl) (by kernel_rfl) h

noncomputable def ws_l02Range (p0 : L01Cur) : Wk (L01Cur × Range) :=
 .p 2 <|
 .bnd (s_l02Key p0) fun r1 er1 =>
 .s (.g (k_s_l02Key p0 r1 er1) Try.call128 (.bx .nil)) <|
 .p 2 <|
 .bnd (s_l02Key r1.1) fun r2 er2 =>
 .s (.g (k_s_l02Key r1.1 r2 er2) Try.call128 (.bx .nil)) <|
 .p 2 <|
 .bnd (s_l01Below r2.1 6) fun r3 er3 =>
 .s (.g (k_s_l01Below r2.1 6 r3 er3) Try.call55 (.bx .nil)) <|
 .p 3 <|
 .ite ((r3.2 == 0))
 (.p 2 <|
 .ret ((r3.1, (⟨(⟨#[]⟩ : ByteArray), (⟨#[]⟩ : ByteArray)⟩ : Range))))
 (.p 2 <|
 .ite ((r3.2 == 1))
 (.p 3 <|
 .ret ((r3.1, (⟨r1.2, (⟨#[]⟩ : ByteArray)⟩ : Range))))
 (.jn false (ι := Bool) (fun j => ms 37 [(0, pV 0), (2, pV 2), (3, sV r1.2), (4, sV r2.2), (25, bV j)] [(0, [.bx [.fz (lC 1 eN_u8 r3.1.b), iC r3.1.i, iC r3.1.h]]), (2, [.bx [sC ((⟨#[]⟩ : ByteArray)), sC ((⟨#[]⟩ : ByteArray))]])])
 (.p 3 <|
 .cut 21 ((r3.2 == 2))
 (.p 4 <|
 .ret true)
 (.p 4 <|
 .ret ((r1.2.toList == r2.2.toList)))) fun j1 =>
 .ite (j1)
 (.p 1 <|
 .bnd (s_PointOf r1.2) fun r4 er4 =>
 .s (.call (k_s_PointOf r1.2 r4 er4) Try.call129) <|
 .p 1 <|
 .ret ((r3.1, r4)))
 (.p 3 <|
 .ite (!(Op.bytesLess r1.2.toList r2.2.toList || r1.2.toList == r2.2.toList))
 (.p 4 <|
 .ret ((r3.1, (⟨r2.2, r1.2⟩ : Range))))
 (.p 4 <|
 .ret ((r3.1, (⟨r1.2, r2.2⟩ : Range)))))))
/-- spec.l02Range -/
noncomputable def s_l02Range (p0 : L01Cur) : Option (L01Cur × Range) := (ws_l02Range p0).den
theorem k_s_l02Range (p0 : L01Cur) (v : L01Cur × Range) (h : s_l02Range p0 = some v) : CallG Try.prog 98 [.bx [.fz (lC 1 eN_u8 p0.b), iC p0.i, iC p0.h]] [pV 0] [.bx [.fz (lC 1 eN_u8 v.1.b), iC v.1.i, iC v.1.h]] (.agg [.c (sC v.2.lo), .c (sC v.2.hi)]) [] :=
  (ws_l02Range p0).callg tyOK Try.func98 rfl (outs := (fun v : L01Cur × Range => [.bx [.fz (lC 1 eN_u8 v.1.b), iC v.1.i, iC v.1.h]])) (res := (fun v : L01Cur × Range => .agg [.c (sC v.2.lo), .c (sC v.2.hi)])) (row := (fun v : L01Cur × Range => [])) (Nat.le_of_ble_eq_true rfl) (by kernel_rfl) h

structure Xs_l02AnyRange_2 where
  w0_0_0 : (List Int)
  w0_0_1 : Int
  w0_0_2 : Int
  w3_0_0 : ByteArray

structure Xs_l02AnyRange_3 where
  w0_0_0 : (List Int)
  w0_0_1 : Int
  w0_0_2 : Int
  w3_0_1 : ByteArray

structure Xs_l02AnyRange_4 where
  w3_0_0 : ByteArray
  w3_0_1 : ByteArray

noncomputable def ws_l02AnyRange (p0 : L01Cur) : Wk (L01Cur × Range) :=
 .p 2 <|
 .bnd (s_l02Range p0) fun r1 er1 =>
 .s (.g (k_s_l02Range p0 r1 er1) Try.call98 (.bx .nil)) <|
 .p 3 <|
 .bnd (s_l01Below r1.1 14) fun r2 er2 =>
 .s (.g (k_s_l01Below r1.1 14 r2 er2) Try.call55 (.bx .nil)) <|
 .p 3 <|
 .jn false (ι := ByteArray) (fun j => ms 39 [(0, pV 0), (2, pV 2), (3, pV 3), (4, iV r2.2)] [(0, [.bx [.fz (lC 1 eN_u8 r2.1.b), iC r2.1.i, iC r2.1.h]]), (2, [.bx [sC ((⟨#[]⟩ : ByteArray)), sC ((⟨#[]⟩ : ByteArray))]]), (3, [.bx [sC r1.2.lo, sC j]])])
 (.ite ((r2.2 == 0))
 (.p 4 <|
 .ret r1.2.lo)
 (.ret r1.2.hi)) fun j1 =>
 .p 2 <|
 .jn false (ι := Xs_l02AnyRange_2) (fun j => ms 39 [(0, pV 0), (2, pV 2), (3, pV 3), (4, iV r2.2)] [(0, [.bx [.fz (lC 1 eN_u8 j.w0_0_0), iC j.w0_0_1, iC j.w0_0_2]]), (2, [.bx [sC ((⟨#[]⟩ : ByteArray)), sC ((⟨#[]⟩ : ByteArray))]]), (3, [.bx [sC j.w3_0_0, sC j1]])])
 (.ite ((r2.2 == 1))
 (.p 1 <|
 .bnd (s_l01Below r2.1 2) fun r3 er3 =>
 .s (.g (k_s_l01Below r2.1 2 r3 er3) Try.call55 (.bx .nil)) <|
 .p 1 <|
 .chk (0 ≤ (IntKind.wrap .i64 (17 + r3.2) : Int) ∧ (IntKind.wrap .i64 (17 + r3.2) : Int).toNat * 1 ≤ 140737488355328) fun c1 =>
 .s (.make eN_u8 0 c1) <|
 .chk (∀ n ∈ (List.replicate (IntKind.wrap .i64 (17 + r3.2) : Int).toNat 0 : List Int), 0 ≤ n ∧ n < 256) fun c2 =>
 .s (.str c2) <|
 .p 2 <|
 .ret ((⟨r3.1.b, r3.1.i, r3.1.h, strOfNums (List.replicate (IntKind.wrap .i64 (17 + r3.2) : Int).toNat 0)⟩ : Xs_l02AnyRange_2)))
 (.ret ((⟨r2.1.b, r2.1.i, r2.1.h, r1.2.lo⟩ : Xs_l02AnyRange_2)))) fun j2 =>
 .p 2 <|
 .jn false (ι := Xs_l02AnyRange_3) (fun j => ms 39 [(0, pV 0), (2, pV 2), (3, pV 3), (4, iV r2.2)] [(0, [.bx [.fz (lC 1 eN_u8 j.w0_0_0), iC j.w0_0_1, iC j.w0_0_2]]), (2, [.bx [sC ((⟨#[]⟩ : ByteArray)), sC ((⟨#[]⟩ : ByteArray))]]), (3, [.bx [sC j2.w3_0_0, sC j.w3_0_1]])])
 (.ite ((r2.2 == 2))
 (.p 2 <|
 .bnd (s_l01Below ((⟨j2.w0_0_0, j2.w0_0_1, j2.w0_0_2⟩ : L01Cur)) 2) fun r4 er4 =>
 .s (.g (k_s_l01Below ((⟨j2.w0_0_0, j2.w0_0_1, j2.w0_0_2⟩ : L01Cur)) 2 r4 er4) Try.call55 (.bx .nil)) <|
 .bnd (getI ([(⟨#[]⟩ : ByteArray), (⟨#[122]⟩ : ByteArray)]) r4.2) fun x1 ex1 =>
 .s (.ixo eStr ex1) <|
 .s (.ld eStr (getI_e ex1).2) <|
 .chk ((((⟨#[122, 122, 122, 122, 122, 122, 122, 122, 122, 122, 122, 122, 122, 122, 122, 122, 122]⟩ : ByteArray)).size + x1.size ≤ 140737488355328)) fun c3 =>
 .s (.q c3) <|
 .p 2 <|
 .ret ((⟨r4.1.b, r4.1.i, r4.1.h, ((⟨#[122, 122, 122, 122, 122, 122, 122, 122, 122, 122, 122, 122, 122, 122, 122, 122, 122]⟩ : ByteArray)) ++ x1⟩ : Xs_l02AnyRange_3)))
 (.ret ((⟨j2.w0_0_0, j2.w0_0_1, j2.w0_0_2, j1⟩ : Xs_l02AnyRange_3)))) fun j3 =>
 .p 2 <|
 .jn false (ι := Xs_l02AnyRange_4) (fun j => ms 39 [(0, pV 0), (2, pV 2), (3, pV 3)] [(0, [.bx [.fz (lC 1 eN_u8 j3.w0_0_0), iC j3.w0_0_1, iC j3.w0_0_2]]), (2, [.bx [sC ((⟨#[]⟩ : ByteArray)), sC ((⟨#[]⟩ : ByteArray))]]), (3, [.bx [sC j.w3_0_0, sC j.w3_0_1]])])
 (.ite ((r2.2 == 3))
 (.p 6 <|
 .ret ((⟨j3.w3_0_1, j2.w3_0_0⟩ : Xs_l02AnyRange_4)))
 (.ret ((⟨j2.w3_0_0, j3.w3_0_1⟩ : Xs_l02AnyRange_4)))) fun j4 =>
 .p 2 <|
 .ret (((⟨j3.w0_0_0, j3.w0_0_1, j3.w0_0_2⟩ : L01Cur), (⟨j4.w3_0_0, j4.w3_0_1⟩ : Range)))
/-- spec.l02AnyRange -/
noncomputable def s_l02AnyRange (p0 : L01Cur) : Option (L01Cur × Range) := (ws_l02AnyRange p0).den
theorem k_s_l02AnyRange (p0 : L01Cur) (v : L01Cur × Range) (h : s_l02AnyRange p0 = some v) : CallG Try.prog 57 [.bx [.fz (lC 1 eN_u8 p0.b), iC p0.i, iC p0.h]] [pV 0] [.bx [.fz (lC 1 eN_u8 v.1.b), iC v.1.i, iC v.1.h]] (.agg [.c (sC v.2.lo), .c (sC v.2.hi)]) [] :=
  (ws_l02AnyRange p0).callg tyOK Try.func57 rfl (outs := (fun v : L01Cur × Range => [.bx [.fz (lC 1 eN_u8 v.1.b), iC v.1.i, iC v.1.h]])) (res := (fun v : L01Cur × Range => .agg [.c (sC v.2.lo), .c (sC v.2.hi)])) (row := (fun v : L01Cur × Range => [])) (Nat.le_of_ble_eq_true rfl) (by kernel_rfl) h

structure Xs_l09AnyAsk_1 where
  w0_0_0 : (List Int)
  w0_0_1 : Int
  w0_0_2 : Int
  w3_0_0 : Int

structure Xs_l09AnyAsk_2 where
  w0_0_0 : (List Int)
  w0_0_1 : Int
  w0_0_2 : Int
  w3_0_1 : ByteArray

structure Xs_l09AnyAsk_3 where
  w0_0_0 : (List Int)
  w0_0_1 : Int
  w0_0_2 : Int
  w3_0_5 : Int

structure Xs_l09AnyAsk_4 where
  w0_0_0 : (List Int)
  w0_0_1 : Int
  w0_0_2 : Int
  w3_0_3 : ByteArray
  w3_0_4 : ByteArray

noncomputable def ws_l09AnyAsk (p0 : L01Cur) : Wk (L01Cur × Ask) :=
 .p 2 <|
 .bnd (s_l09Ask p0) fun r1 er1 =>
 .s (.g (k_s_l09Ask p0 r1 er1) Try.call72 (.bx .nil)) <|
 .p 3 <|
 .bnd (s_l01Below r1.1 14) fun r2 er2 =>
 .s (.g (k_s_l01Below r1.1 14 r2 er2) Try.call55 (.bx .nil)) <|
 .p 3 <|
 .jn false (ι := Xs_l09AnyAsk_1) (fun j => ms 42 [(0, pV 0), (2, pV 2), (3, pV 3), (4, iV r2.2)] [(0, [.bx [.fz (lC 1 eN_u8 j.w0_0_0), iC j.w0_0_1, iC j.w0_0_2]]), (2, [.bx [iC 0, sC ((⟨#[]⟩ : ByteArray)), sC ((⟨#[]⟩ : ByteArray)), sC ((⟨#[]⟩ : ByteArray)), sC ((⟨#[]⟩ : ByteArray)), iC 0, bC false]]), (3, [.bx [iC j.w3_0_0, sC r1.2.key, sC r1.2.val, sC r1.2.range.lo, sC r1.2.range.hi, iC r1.2.most, bC r1.2.back]])])
 (.ite ((r2.2 == 0))
 (.p 1 <|
 .bnd (s_l01Raw r2.1) fun r3 er3 =>
 .s (.g (k_s_l01Raw r2.1 r3 er3) Try.call100 (.bx .nil)) <|
 .p 2 <|
 .ret ((⟨r3.1.b, r3.1.i, r3.1.h, r3.2⟩ : Xs_l09AnyAsk_1)))
 (.ret ((⟨r2.1.b, r2.1.i, r2.1.h, r1.2.kind⟩ : Xs_l09AnyAsk_1)))) fun j1 =>
 .p 2 <|
 .jn false (ι := Xs_l09AnyAsk_2) (fun j => ms 42 [(0, pV 0), (2, pV 2), (3, pV 3), (4, iV r2.2)] [(0, [.bx [.fz (lC 1 eN_u8 j.w0_0_0), iC j.w0_0_1, iC j.w0_0_2]]), (2, [.bx [iC 0, sC ((⟨#[]⟩ : ByteArray)), sC ((⟨#[]⟩ : ByteArray)), sC ((⟨#[]⟩ : ByteArray)), sC ((⟨#[]⟩ : ByteArray)), iC 0, bC false]]), (3, [.bx [iC j1.w3_0_0, sC j.w3_0_1, sC r1.2.val, sC r1.2.range.lo, sC r1.2.range.hi, iC r1.2.most, bC r1.2.back]])])
 (.ite ((r2.2 == 1))
 (.p 2 <|
 .bnd (s_l01Below ((⟨j1.w0_0_0, j1.w0_0_1, j1.w0_0_2⟩ : L01Cur)) 3) fun r4 er4 =>
 .s (.g (k_s_l01Below ((⟨j1.w0_0_0, j1.w0_0_1, j1.w0_0_2⟩ : L01Cur)) 3 r4 er4) Try.call55 (.bx .nil)) <|
 .bnd (getI ([(⟨#[]⟩ : ByteArray), (⟨#[122, 122, 122, 122, 122, 122, 122, 122, 122]⟩ : ByteArray), (⟨#[97]⟩ : ByteArray)]) r4.2) fun x1 ex1 =>
 .s (.ixo eStr ex1) <|
 .s (.ld eStr (getI_e ex1).2) <|
 .p 2 <|
 .ret ((⟨r4.1.b, r4.1.i, r4.1.h, x1⟩ : Xs_l09AnyAsk_2)))
 (.ret ((⟨j1.w0_0_0, j1.w0_0_1, j1.w0_0_2, r1.2.key⟩ : Xs_l09AnyAsk_2)))) fun j2 =>
 .p 2 <|
 .jn false (ι := Xs_l09AnyAsk_3) (fun j => ms 42 [(0, pV 0), (2, pV 2), (3, pV 3), (4, iV r2.2)] [(0, [.bx [.fz (lC 1 eN_u8 j.w0_0_0), iC j.w0_0_1, iC j.w0_0_2]]), (2, [.bx [iC 0, sC ((⟨#[]⟩ : ByteArray)), sC ((⟨#[]⟩ : ByteArray)), sC ((⟨#[]⟩ : ByteArray)), sC ((⟨#[]⟩ : ByteArray)), iC 0, bC false]]), (3, [.bx [iC j1.w3_0_0, sC j2.w3_0_1, sC r1.2.val, sC r1.2.range.lo, sC r1.2.range.hi, iC j.w3_0_5, bC r1.2.back]])])
 (.ite ((r2.2 == 2))
 (.p 2 <|
 .bnd (s_l01Below ((⟨j2.w0_0_0, j2.w0_0_1, j2.w0_0_2⟩ : L01Cur)) 3) fun r5 er5 =>
 .s (.g (k_s_l01Below ((⟨j2.w0_0_0, j2.w0_0_1, j2.w0_0_2⟩ : L01Cur)) 3 r5 er5) Try.call55 (.bx .nil)) <|
 .bnd (getI ([0, 9, 1]) r5.2) fun x2 ex2 =>
 .s (.ixo eInt ex2) <|
 .s (.ld eInt (getI_e ex2).2) <|
 .p 2 <|
 .ret ((⟨r5.1.b, r5.1.i, r5.1.h, x2⟩ : Xs_l09AnyAsk_3)))
 (.ret ((⟨j2.w0_0_0, j2.w0_0_1, j2.w0_0_2, r1.2.most⟩ : Xs_l09AnyAsk_3)))) fun j3 =>
 .p 2 <|
 .jn false (ι := Xs_l09AnyAsk_4) (fun j => ms 42 [(0, pV 0), (2, pV 2), (3, pV 3), (4, iV r2.2)] [(0, [.bx [.fz (lC 1 eN_u8 j.w0_0_0), iC j.w0_0_1, iC j.w0_0_2]]), (2, [.bx [iC 0, sC ((⟨#[]⟩ : ByteArray)), sC ((⟨#[]⟩ : ByteArray)), sC ((⟨#[]⟩ : ByteArray)), sC ((⟨#[]⟩ : ByteArray)), iC 0, bC false]]), (3, [.bx [iC j1.w3_0_0, sC j2.w3_0_1, sC r1.2.val, sC j.w3_0_3, sC j.w3_0_4, iC j3.w3_0_5, bC r1.2.back]])])
 (.ite ((r2.2 == 3))
 (.p 1 <|
 .bnd (s_l02AnyRange ((⟨j3.w0_0_0, j3.w0_0_1, j3.w0_0_2⟩ : L01Cur))) fun r6 er6 =>
 .s (.g (k_s_l02AnyRange ((⟨j3.w0_0_0, j3.w0_0_1, j3.w0_0_2⟩ : L01Cur)) r6 er6) Try.call57 (.bx .nil)) <|
 .p 2 <|
 .ret ((⟨r6.1.b, r6.1.i, r6.1.h, r6.2.lo, r6.2.hi⟩ : Xs_l09AnyAsk_4)))
 (.ret ((⟨j3.w0_0_0, j3.w0_0_1, j3.w0_0_2, r1.2.range.lo, r1.2.range.hi⟩ : Xs_l09AnyAsk_4)))) fun j4 =>
 .p 2 <|
 .jn false (ι := Bool) (fun j => ms 42 [(0, pV 0), (2, pV 2), (3, pV 3)] [(0, [.bx [.fz (lC 1 eN_u8 j4.w0_0_0), iC j4.w0_0_1, iC j4.w0_0_2]]), (2, [.bx [iC 0, sC ((⟨#[]⟩ : ByteArray)), sC ((⟨#[]⟩ : ByteArray)), sC ((⟨#[]⟩ : ByteArray)), sC ((⟨#[]⟩ : ByteArray)), iC 0, bC false]]), (3, [.bx [iC j1.w3_0_0, sC j2.w3_0_1, sC r1.2.val, sC j4.w3_0_3, sC j4.w3_0_4, iC j3.w3_0_5, bC j]])])
 (.ite ((r2.2 == 4))
 (.p 5 <|
 .ret (!r1.2.back))
 (.ret r1.2.back)) fun j5 =>
 .p 2 <|
 .ret (((⟨j4.w0_0_0, j4.w0_0_1, j4.w0_0_2⟩ : L01Cur), (⟨j1.w3_0_0, j2.w3_0_1, r1.2.val, (⟨j4.w3_0_3, j4.w3_0_4⟩ : Range), j3.w3_0_5, j5⟩ : Ask)))
/-- spec.l09AnyAsk -/
noncomputable def s_l09AnyAsk (p0 : L01Cur) : Option (L01Cur × Ask) := (ws_l09AnyAsk p0).den
theorem k_s_l09AnyAsk (p0 : L01Cur) (v : L01Cur × Ask) (h : s_l09AnyAsk p0 = some v) : CallG Try.prog 73 [.bx [.fz (lC 1 eN_u8 p0.b), iC p0.i, iC p0.h]] [pV 0] [.bx [.fz (lC 1 eN_u8 v.1.b), iC v.1.i, iC v.1.h]] (.agg [.c (iC v.2.kind), .c (sC v.2.key), .c (sC v.2.val), .c (sC v.2.range.lo), .c (sC v.2.range.hi), .c (iC v.2.most), .c (bC v.2.back)]) [] :=
  (ws_l09AnyAsk p0).callg tyOK Try.func73 rfl (outs := (fun v : L01Cur × Ask => [.bx [.fz (lC 1 eN_u8 v.1.b), iC v.1.i, iC v.1.h]])) (res := (fun v : L01Cur × Ask => .agg [.c (iC v.2.kind), .c (sC v.2.key), .c (sC v.2.val), .c (sC v.2.range.lo), .c (sC v.2.range.hi), .c (iC v.2.most), .c (bC v.2.back)])) (row := (fun v : L01Cur × Ask => [])) (Nat.le_of_ble_eq_true rfl) (by kernel_rfl) h

structure Xs_DrawRunAsk_1 where
  w6_0_0 : Int
  w6_0_1 : ByteArray
  w6_0_2 : ByteArray
  w6_0_3 : ByteArray
  w6_0_4 : ByteArray
  w6_0_5 : Int
  w6_0_6 : Bool

noncomputable def ws_DrawRunAsk (p0 : (List Int)) : Wk ((List Pair) × Ask) :=
 .p 3 <|
 .bnd (s_l01New p0) fun r1 er1 =>
 .s (.call (k_s_l01New p0 r1 er1) Try.call52) <|
 .p 2 <|
 .bnd (s_l13Any r1) fun r2 er2 =>
 .s (.g (k_s_l13Any r1 r2 er2) Try.call71 (.bx .nil)) <|
 .p 2 <|
 .bnd (s_l09Ask r2.1) fun r3 er3 =>
 .s (.g (k_s_l09Ask r2.1 r3 er3) Try.call72 (.bx .nil)) <|
 .p 3 <|
 .bnd (s_l01Below r3.1 8) fun r4 er4 =>
 .s (.g (k_s_l01Below r3.1 8 r4 er4) Try.call55 (.bx .nil)) <|
 .p 1 <|
 .jn false (ι := Xs_DrawRunAsk_1) (fun j => ms 20 [(3, pV 3), (5, .one (.so [] 10 0 (((r2.2).map ePair).length))), (6, pV 6)] [(3, [.bx [iC 0, sC ((⟨#[]⟩ : ByteArray)), sC ((⟨#[]⟩ : ByteArray)), sC ((⟨#[]⟩ : ByteArray)), sC ((⟨#[]⟩ : ByteArray)), iC 0, bC false]]), (6, [.bx [iC j.w6_0_0, sC j.w6_0_1, sC j.w6_0_2, sC j.w6_0_3, sC j.w6_0_4, iC j.w6_0_5, bC j.w6_0_6]]), (10, [lC 2 ePair r2.2])])
 (.ite ((r4.2 == 0))
 (.p 1 <|
 .bnd (s_l09AnyAsk r4.1) fun r5 er5 =>
 .s (.g (k_s_l09AnyAsk r4.1 r5 er5) Try.call73 (.bx .nil)) <|
 .p 1 <|
 .ret ((⟨r5.2.kind, r5.2.key, r5.2.val, r5.2.range.lo, r5.2.range.hi, r5.2.most, r5.2.back⟩ : Xs_DrawRunAsk_1)))
 (.ret ((⟨r3.2.kind, r3.2.key, r3.2.val, r3.2.range.lo, r3.2.range.hi, r3.2.most, r3.2.back⟩ : Xs_DrawRunAsk_1)))) fun j1 =>
 .drawn [3] [] (ms 20 [(2, .one (.so [] 10 0 (((r2.2).map ePair).length))), (3, pV 3)] [(3, [.bx [iC j1.w6_0_0, sC j1.w6_0_1, sC j1.w6_0_2, sC j1.w6_0_3, sC j1.w6_0_4, iC j1.w6_0_5, bC j1.w6_0_6]]), (10, [lC 2 ePair r2.2])]) <|
 .ret ((r2.2, (⟨j1.w6_0_0, j1.w6_0_1, j1.w6_0_2, (⟨j1.w6_0_3, j1.w6_0_4⟩ : Range), j1.w6_0_5, j1.w6_0_6⟩ : Ask)))
/-- spec.DrawRunAsk -/
noncomputable def s_DrawRunAsk (p0 : (List Int)) : Option ((List Pair) × Ask) := (ws_DrawRunAsk p0).den
theorem k_s_DrawRunAsk (p0 : (List Int)) (v : (List Pair) × Ask) (h : s_DrawRunAsk p0 = some v) : CallOK Try.prog 24 [lV 1 eN_u8 p0] (.tup [.one (.so [] 0 0 (((v.1).map ePair).length)), .agg [.c (iC v.2.kind), .c (sC v.2.key), .c (sC v.2.val), .c (sC v.2.range.lo), .c (sC v.2.range.hi), .c (iC v.2.most), .c (bC v.2.back)]]) [lC 2 ePair v.1] :=
  (ws_DrawRunAsk p0).call tyOK Try.func24 rfl (res := (fun v : (List Pair) × Ask => .tup [.one (.so [] 0 0 (((v.1).map ePair).length)), .agg [.c (iC v.2.kind), .c (sC v.2.key), .c (sC v.2.val), .c (sC v.2.range.lo), .c (sC v.2.range.hi), .c (iC v.2.most), .c (bC v.2.back)]])) (row := (fun v : (List Pair) × Ask => [lC 2 ePair v.1])) (by kernel_rfl) h

noncomputable def wi_within (p0 : Int) (p1 : Int) (p2 : Int) : Wk (Bool) :=
 .p 1 <|
 .jn false (ι := Bool) (fun j => ms 15 [(6, bV j)] [])
 (.p 4 <|
 .cut 10 (decide (p0 ≥ p1))
 (.p 5 <|
 .ret (decide (p0 ≤ p2)))
 (.p 5 <|
 .ret false)) fun j1 =>
 .ret j1
/-- impl.within -/
noncomputable def i_within (p0 : Int) (p1 : Int) (p2 : Int) : Option (Bool) := (wi_within p0 p1 p2).den
theorem k_i_within (p0 : Int) (p1 : Int) (p2 : Int) (v : Bool) (h : i_within p0 p1 p2 = some v) : CallOK Try.prog 91 [iV p0, iV p1, iV p2] (bV v) [] :=
  (wi_within p0 p1 p2).call tyOK Try.func91 rfl (res := (fun v : Bool => bV v)) (row := (fun v : Bool => [])) (by kernel_rfl) h

noncomputable def wi_UserOk (p0 : ByteArray) : Wk (Bool) :=
 .p 3 <|
 .bnd (i_within ((p0.size : Int)) 1 8) fun r1 er1 =>
 .s (.call (k_i_within ((p0.size : Int)) 1 8 r1 er1) Try.call91) <|
 .p 1 <|
 .ret r1
/-- impl.UserOk -/
noncomputable def i_UserOk (p0 : ByteArray) : Option (Bool) := (wi_UserOk p0).den
theorem k_i_UserOk (p0 : ByteArray) (v : Bool) (h : i_UserOk p0 = some v) : CallOK Try.prog 88 [sV p0] (bV v) [] :=
  (wi_UserOk p0).call tyOK Try.func88 rfl (res := (fun v : Bool => bV v)) (row := (fun v : Bool => [])) (by kernel_rfl) h

noncomputable def wi_UvalOk (p0 : ByteArray) : Wk (Bool) :=
 .p 5 <|
 .ret (decide (((p0.size : Int)) ≤ 20))
/-- impl.UvalOk -/
noncomputable def i_UvalOk (p0 : ByteArray) : Option (Bool) := (wi_UvalOk p0).den
theorem k_i_UvalOk (p0 : ByteArray) (v : Bool) (h : i_UvalOk p0 = some v) : CallOK Try.prog 89 [sV p0] (bV v) [] :=
  (wi_UvalOk p0).call tyOK Try.func89 rfl (res := (fun v : Bool => bV v)) (row := (fun v : Bool => [])) (by kernel_rfl) h

noncomputable def wi_userPair (p0 : Pair) : Wk (Bool) :=
 .p 2 <|
 .jn false (ι := Bool) (fun j => ms 11 [(2, bV j)] [])
 (.p 2 <|
 .bnd (i_UserOk p0.key) fun r1 er1 =>
 .s (.call (k_i_UserOk p0.key r1 er1) Try.call88) <|
 .p 1 <|
 .cut 6 (r1)
 (.p 2 <|
 .bnd (i_UvalOk p0.val) fun r2 er2 =>
 .s (.call (k_i_UvalOk p0.val r2 er2) Try.call89) <|
 .p 2 <|
 .ret r2)
 (.p 5 <|
 .ret false)) fun j1 =>
 .ret j1
/-- impl.userPair -/
noncomputable def i_userPair (p0 : Pair) : Option (Bool) := (wi_userPair p0).den
theorem k_i_userPair (p0 : Pair) (v : Bool) (h : i_userPair p0 = some v) : CallOK Try.prog 74 [.agg [.c (sC p0.key), .c (sC p0.val)]] (bV v) [] :=
  (wi_userPair p0).call tyOK Try.func74 rfl (res := (fun v : Bool => bV v)) (row := (fun v : Bool => [])) (by kernel_rfl) h


end Go.Proofs.Ytagoajkiccgmjaa
namespace Go.Proofs.Ytagoajkiccgmjaa
open Go.Mv Go.RowKit

noncomputable def Bi_DataOk_1 (p0 : (List Pair)) (s1 : Int) : Wk (Int ⊕ (Unit ⊕ (Bool))) :=
 .p 1 <|
 .ite (decide (s1 < (((((p0).map ePair).length : Nat) : Int))))
 (.eb <|
 .p 1 <|
 .bnd (getI p0 s1) fun x1 ex1 =>
 .s (.idx ePair ex1) <|
 .p 4 <|
 .jn false (ι := Bool) (fun j => ms 31 [(0, lV 2 ePair p0), (5, lV 2 ePair p0), (6, iV (((((p0).map ePair).length : Nat) : Int))), (7, iV s1), (29, bV j)] [])
 (.bnd (i_userPair x1) fun r1 er1 =>
 .cs (!r1)
 (fun h2 => .drawn [] [(1, .call (k_i_userPair x1 r1 er1) Try.call74), (3, .kn (.pl) 15 h2)] (ms 31 [(0, lV 2 ePair p0), (5, lV 2 ePair p0), (6, iV (((((p0).map ePair).length : Nat) : Int))), (7, iV s1), (29, bV true)] []) <|
 .ret true)
 (fun h2 => .cs (decide (s1 > 0))
 (fun h3 => .bnd (getI p0 (IntKind.wrap .i64 (s1 - 1))) fun x2 ex2 =>
 .drawn [] [(1, .call (k_i_userPair x1 r1 er1) Try.call74), (3, .kn (.pl) 15 h2), (6, .kn (.pl) 18 h3), (10, .idx ePair ex2)] (ms 31 [(0, lV 2 ePair p0), (5, lV 2 ePair p0), (6, iV (((((p0).map ePair).length : Nat) : Int))), (7, iV s1), (29, bV (!Op.bytesLess x2.key.toList x1.key.toList))] []) <|
 .ret (!Op.bytesLess x2.key.toList x1.key.toList))
 (fun h3 => .drawn [] [(1, .call (k_i_userPair x1 r1 er1) Try.call74), (3, .kn (.pl) 15 h2), (6, .kn (.pl) 18 h3)] (ms 31 [(0, lV 2 ePair p0), (5, lV 2 ePair p0), (6, iV (((((p0).map ePair).length : Nat) : Int))), (7, iV s1), (29, bV false)] []) <|
 .ret false))) fun j1 =>
 .ite (j1)
 (.p 1 <|
 .ret (.inr (.inr false)))
 (.p 2 <|
 .ret (.inl (IntKind.wrap .i64 (s1 + 1)))))
 (.ret (.inr (.inl (()))))

noncomputable def wi_DataOk (p0 : (List Pair)) : Wk (Bool) :=
 .p 4 <|
 .join true (ι := Unit) (fun j => ms 31 [] [])
 (.eb <|
 .loop (σ := Int) (fun s1 => ms 31 [(0, lV 2 ePair p0), (5, lV 2 ePair p0), (6, iV (((((p0).map ePair).length : Nat) : Int))), (7, iV s1)] []) 0 (Bi_DataOk_1 p0)) fun j2 =>
 .p 1 <|
 .ret true
/-- impl.DataOk -/
noncomputable def i_DataOk (p0 : (List Pair)) : Option (Bool) := (wi_DataOk p0).den
theorem k_i_DataOk (p0 : (List Pair)) (v : Bool) (h : i_DataOk p0 = some v) : CallOK Try.prog 26 [lV 2 ePair p0] (bV v) [] :=
  (wi_DataOk p0).call tyOK Try.func26 rfl (res := (fun v : Bool => bV v)) (row := (fun v : Bool => [])) (by kernel_rfl) h

noncomputable def wi_RangeOk (p0 : Range) : Wk (Bool) :=
 .p 2 <|
 .jn false (ι := Bool) (fun j => ms 25 [(2, bV j)] [])
 (.p 5 <|
 .cut 7 (decide (((p0.lo.size : Int)) ≤ 17))
 (.p 6 <|
 .cut 13 (decide (((p0.hi.size : Int)) ≤ 17))
 (.p 4 <|
 .cut 17 ((p0.hi.toList == ((⟨#[]⟩ : ByteArray)).toList))
 (.p 8 <|
 .ret true)
 (.p 8 <|
 .ret (!(Op.bytesLess p0.hi.toList p0.lo.toList || p0.hi.toList == p0.lo.toList))))
 (.p 12 <|
 .ret false))
 (.p 18 <|
 .ret false)) fun j1 =>
 .ret j1
/-- impl.RangeOk -/
noncomputable def i_RangeOk (p0 : Range) : Option (Bool) := (wi_RangeOk p0).den
theorem k_i_RangeOk (p0 : Range) (v : Bool) (h : i_RangeOk p0 = some v) : CallOK Try.prog 102 [.agg [.c (sC p0.lo), .c (sC p0.hi)]] (bV v) [] :=
  (wi_RangeOk p0).call tyOK Try.func102 rfl (res := (fun v : Bool => bV v)) (row := (fun v : Bool => [])) (by kernel_rfl) h

noncomputable def wi_ReachOk (p0 : Range) : Wk (Bool) :=
 .p 2 <|
 .jn false (ι := Bool) (fun j => ms 17 [(2, bV j)] [])
 (.p 1 <|
 .bnd (i_RangeOk p0) fun r1 er1 =>
 .s (.call (k_i_RangeOk p0 r1 er1) Try.call102) <|
 .p 1 <|
 .cut 5 (r1)
 (.p 6 <|
 .cut 11 (decide (((p0.lo.size : Int)) ≤ 9))
 (.p 6 <|
 .ret (decide (((p0.hi.size : Int)) ≤ 9)))
 (.p 6 <|
 .ret false))
 (.p 12 <|
 .ret false)) fun j1 =>
 .ret j1
/-- impl.ReachOk -/
noncomputable def i_ReachOk (p0 : Range) : Option (Bool) := (wi_ReachOk p0).den
theorem k_i_ReachOk (p0 : Range) (v : Bool) (h : i_ReachOk p0 = some v) : CallOK Try.prog 90 [.agg [.c (sC p0.lo), .c (sC p0.hi)]] (bV v) [] :=
  (wi_ReachOk p0).call tyOK Try.func90 rfl (res := (fun v : Bool => bV v)) (row := (fun v : Bool => [])) (by kernel_rfl) h

noncomputable def wi_AskOk (p0 : Ask) : Wk (Bool) :=
 .p 4 <|
 .eb <|
 .p 2 <|
 .jn false (ι := Bool) (fun j => ms 61 [(1, pV 1), (4, iV p0.kind), (5, bV j)] [(1, [.bx [iC p0.kind, sC p0.key, sC p0.val, sC p0.range.lo, sC p0.range.hi, iC p0.most, bC p0.back]])])
 (.ite ((p0.kind == 1))
 (.ret ((p0.kind == 1)))
 (.p 2 <|
 .ret ((p0.kind == 3)))) fun j1 =>
 .ite (j1)
 (.jn false (ι := Bool) (fun j => ms 61 [(2, bV j)] [])
 (.p 2 <|
 .bnd (i_UserOk p0.key) fun r1 er1 =>
 .s (.call (k_i_UserOk p0.key r1 er1) Try.call88) <|
 .p 1 <|
 .cut 11 (r1)
 (.p 9 <|
 .ret (((p0.kind == p0.kind) && ((p0.key.toList == p0.key.toList) && ((p0.val.toList == ((⟨#[]⟩ : ByteArray)).toList) && ((p0.range.lo.toList == ((⟨#[]⟩ : ByteArray)).toList) && ((p0.range.hi.toList == ((⟨#[]⟩ : ByteArray)).toList) && ((p0.most == 0) && ((p0.back == false) && true)))))))))
 (.p 9 <|
 .ret false)) fun j2 =>
 .ret j2)
 (.p 2 <|
 .ite ((p0.kind == 2))
 (.jn false (ι := Bool) (fun j => ms 61 [(2, bV j)] [])
 (.p 2 <|
 .bnd (i_UserOk p0.key) fun r2 er2 =>
 .s (.call (k_i_UserOk p0.key r2 er2) Try.call88) <|
 .p 1 <|
 .cut 25 (r2)
 (.p 2 <|
 .bnd (i_UvalOk p0.val) fun r3 er3 =>
 .s (.call (k_i_UvalOk p0.val r3 er3) Try.call89) <|
 .p 2 <|
 .cut 30 (r3)
 (.p 11 <|
 .ret (((p0.kind == p0.kind) && ((p0.key.toList == p0.key.toList) && ((p0.val.toList == p0.val.toList) && ((p0.range.lo.toList == ((⟨#[]⟩ : ByteArray)).toList) && ((p0.range.hi.toList == ((⟨#[]⟩ : ByteArray)).toList) && ((p0.most == 0) && ((p0.back == false) && true)))))))))
 (.p 11 <|
 .ret false))
 (.p 16 <|
 .ret false)) fun j3 =>
 .ret j3)
 (.p 2 <|
 .ite ((p0.kind == 4))
 (.jn false (ι := Bool) (fun j => ms 61 [(2, bV j)] [])
 (.p 2 <|
 .bnd (i_ReachOk p0.range) fun r3 er3 =>
 .s (.call (k_i_ReachOk p0.range r3 er3) Try.call90) <|
 .p 1 <|
 .cut 46 (r3)
 (.p 2 <|
 .bnd (i_within p0.most 1 8) fun r4 er4 =>
 .s (.call (k_i_within p0.most 1 8 r4 er4) Try.call91) <|
 .p 2 <|
 .cut 51 (r4)
 (.p 5 <|
 .cut 56 ((p0.key.toList == ((⟨#[]⟩ : ByteArray)).toList))
 (.p 5 <|
 .ret ((p0.val.toList == ((⟨#[]⟩ : ByteArray)).toList)))
 (.p 5 <|
 .ret false))
 (.p 10 <|
 .ret false))
 (.p 15 <|
 .ret false)) fun j4 =>
 .ret j4)
 (.p 1 <|
 .ret false)))
/-- impl.AskOk -/
noncomputable def i_AskOk (p0 : Ask) : Option (Bool) := (wi_AskOk p0).den
theorem k_i_AskOk (p0 : Ask) (v : Bool) (h : i_AskOk p0 = some v) : CallOK Try.prog 48 [.agg [.c (iC p0.kind), .c (sC p0.key), .c (sC p0.val), .c (sC p0.range.lo), .c (sC p0.range.hi), .c (iC p0.most), .c (bC p0.back)]] (bV v) [] :=
  (wi_AskOk p0).call tyOK Try.func48 rfl (res := (fun v : Bool => bV v)) (row := (fun v : Bool => [])) (by kernel_rfl) h

noncomputable def wi_copyPairs (p0 : (List Pair)) : Wk ((List Pair)) :=
 .p 2 <|
 .chk (((([] : List Pair)).length + (p0).length) * 32 ≤ 140737488355328) fun c1 =>
 .s (.app ePair .ro c1) <|
 .p 1 <|
 .ret p0
/-- impl.copyPairs -/
noncomputable def i_copyPairs (p0 : (List Pair)) : Option ((List Pair)) := (wi_copyPairs p0).den
theorem k_i_copyPairs (p0 : (List Pair)) (v : (List Pair)) (h : i_copyPairs p0 = some v) : CallOK Try.prog 78 [lV 2 ePair p0] (.one (.so [] 0 0 (((v).map ePair).length))) [lC 2 ePair v] :=
  (wi_copyPairs p0).call tyOK Try.func78 rfl (res := (fun v : (List Pair) => .one (.so [] 0 0 (((v).map ePair).length)))) (row := (fun v : (List Pair) => [lC 2 ePair v])) (by kernel_rfl) h

noncomputable def wi_comparePair (p0 : Pair) (p1 : ByteArray) : Wk (Int) :=
 .p 2 <|
 .eb <|
 .p 5 <|
 .ite (Op.bytesLess p0.key.toList p1.toList)
 (.p 1 <|
 .ret (-1))
 (.p 5 <|
 .ite (!(Op.bytesLess p0.key.toList p1.toList || p0.key.toList == p1.toList))
 (.p 1 <|
 .ret 1)
 (.p 1 <|
 .ret 0))
/-- impl.comparePair -/
noncomputable def i_comparePair (p0 : Pair) (p1 : ByteArray) : Option (Int) := (wi_comparePair p0 p1).den
theorem k_i_comparePair (p0 : Pair) (p1 : ByteArray) (v : Int) (h : i_comparePair p0 p1 = some v) : CallOK Try.prog 121 [.agg [.c (sC p0.key), .c (sC p0.val)], sV p1] (iV v) [] :=
  (wi_comparePair p0 p1).call tyOK Try.func121 rfl (res := (fun v : Int => iV v)) (row := (fun v : Int => [])) (by kernel_rfl) h

structure Ssl_BinarySearchFunc_Pair_string_i_comparePair_1 where
  v9 : Int
  v10 : Int

structure Xsl_BinarySearchFunc_Pair_string_i_comparePair_2 where
  v9 : Int
  v10 : Int

noncomputable def Bsl_BinarySearchFunc_Pair_string_i_comparePair_1 (p0 : (List Pair)) (p1 : ByteArray) (s1 : Ssl_BinarySearchFunc_Pair_string_i_comparePair_1) : Wk (Ssl_BinarySearchFunc_Pair_string_i_comparePair_1 ⊕ Int) :=
 .p 3 <|
 .ite (decide (s1.v9 < s1.v10))
 (.eb <|
 .p 10 <|
 .bnd (getI p0 (IntKind.wrap .i64 (Int.fdiv (IntKind.wrap .u64 (IntKind.wrap .i64 (s1.v9 + s1.v10))) 2))) fun x1 ex1 =>
 .s (.idx ePair ex1) <|
 .p 2 <|
 .bnd (i_comparePair x1 p1) fun r1 er1 =>
 .s (.callv (k_i_comparePair x1 p1 r1 er1) Try.call121 (clean_nil)) <|
 .p 1 <|
 .jn false (ι := Xsl_BinarySearchFunc_Pair_string_i_comparePair_2) (fun j => ms 49 [(0, lV 2 ePair p0), (1, sV p1), (2, .one (.c (.fn 121 []))), (8, iV (((((p0).map ePair).length : Nat) : Int))), (9, iV j.v9), (10, iV j.v10)] [])
 (.ite (decide (r1 < 0))
 (.p 3 <|
 .ret ((⟨IntKind.wrap .i64 ((IntKind.wrap .i64 (Int.fdiv (IntKind.wrap .u64 (IntKind.wrap .i64 (s1.v9 + s1.v10))) 2)) + 1), s1.v10⟩ : Xsl_BinarySearchFunc_Pair_string_i_comparePair_2)))
 (.p 2 <|
 .ret ((⟨s1.v9, IntKind.wrap .i64 (Int.fdiv (IntKind.wrap .u64 (IntKind.wrap .i64 (s1.v9 + s1.v10))) 2)⟩ : Xsl_BinarySearchFunc_Pair_string_i_comparePair_2)))) fun j1 =>
 .ret (.inl ((⟨j1.v9, j1.v10⟩ : Ssl_BinarySearchFunc_Pair_string_i_comparePair_1))))
 (.ret (.inr s1.v9))

noncomputable def wsl_BinarySearchFunc_Pair_string_i_comparePair (p0 : (List Pair)) (p1 : ByteArray) : Wk (Int × Bool) :=
 .p 8 <|
 .jn true (ι := Int) (fun j => ms 49 [(0, lV 2 ePair p0), (1, sV p1), (2, .one (.c (.fn 121 []))), (8, iV (((((p0).map ePair).length : Nat) : Int))), (9, iV j)] [])
 (.eb <|
 .loop (σ := Ssl_BinarySearchFunc_Pair_string_i_comparePair_1) (fun s1 => ms 49 [(0, lV 2 ePair p0), (1, sV p1), (2, .one (.c (.fn 121 []))), (8, iV (((((p0).map ePair).length : Nat) : Int))), (9, iV s1.v9), (10, iV s1.v10)] []) ((⟨0, ((((p0).map ePair).length : Nat) : Int)⟩ : Ssl_BinarySearchFunc_Pair_string_i_comparePair_1)) (Bsl_BinarySearchFunc_Pair_string_i_comparePair_1 p0 p1)) fun j2 =>
 .jn false (ι := Bool) (fun j => ms 49 [(6, iV j2), (7, bV j)] [])
 (.p 5 <|
 .cut 39 (decide (j2 < (((((p0).map ePair).length : Nat) : Int))))
 (.p 3 <|
 .bnd (getI p0 j2) fun x2 ex2 =>
 .s (.idx ePair ex2) <|
 .p 2 <|
 .bnd (i_comparePair x2 p1) fun r2 er2 =>
 .s (.callv (k_i_comparePair x2 p1 r2 er2) Try.call121 (clean_nil)) <|
 .p 4 <|
 .ret ((r2 == 0)))
 (.p 11 <|
 .ret false)) fun j3 =>
 .ret ((j2, j3))
/-- slices.BinarySearchFunc[[]impl.Pair,impl.Pair,string] -/
noncomputable def sl_BinarySearchFunc_Pair_string_i_comparePair (p0 : (List Pair)) (p1 : ByteArray) : Option (Int × Bool) := (wsl_BinarySearchFunc_Pair_string_i_comparePair p0 p1).den
theorem k_sl_BinarySearchFunc_Pair_string_i_comparePair (p0 : (List Pair)) (p1 : ByteArray) (v : Int × Bool) (h : sl_BinarySearchFunc_Pair_string_i_comparePair p0 p1 = some v) : CallOK Try.prog 120 [lV 2 ePair p0, sV p1, .one (.c (.fn 121 []))] (.tup [.one (.c (iC v.1)), .one (.c (bC v.2))]) [] :=
  (wsl_BinarySearchFunc_Pair_string_i_comparePair p0 p1).call tyOK Try.func120 rfl (res := (fun v : Int × Bool => .tup [.one (.c (iC v.1)), .one (.c (bC v.2))])) (row := (fun v : Int × Bool => [])) (by kernel_rfl) h
noncomputable def wi_put (p0 : (List Pair)) (p1 : Pair) : Wk ((List Pair)) :=
 .p 5 <|
 .bnd (sl_BinarySearchFunc_Pair_string_i_comparePair p0 p1.key) fun r1 er1 =>
 .s (.lend (k_sl_BinarySearchFunc_Pair_string_i_comparePair p0 p1.key r1 er1) Try.call120 (clean_nil)) <|
 .p 6 <|
 .ite (r1.2)
 (.p 3 <|
 .bnd (getI p0 r1.1) fun x1 ex1 =>
 .s (.ixo ePair ex1) <|
 .s (.st ePair p1 (getI_e ex1).2 rfl) <|
 .im (.says 0 (show (.one (.so [] 0 0 (((p0).map ePair).length)) : TV) = .one (.so [] 0 0 (((p0.set ((r1.1).toNat) p1).map ePair).length)) by simp <;> omega)) <|
 .p 2 <|
 .ret (p0.set ((r1.1).toNat) p1))
 (.p 4 <|
 .bnd (sl_Insert_Pair p0 r1.1 ([p1])) fun r2 er2 =>
 .s (.g (k_sl_Insert_Pair p0 r1.1 ([p1]) r2 er2) Try.call122 .nil) <|
 .p 1 <|
 .ret r2)
/-- impl.put -/
noncomputable def i_put (p0 : (List Pair)) (p1 : Pair) : Option ((List Pair)) := (wi_put p0 p1).den
theorem k_i_put (p0 : (List Pair)) (p1 : Pair) (v : (List Pair)) (h : i_put p0 p1 = some v) : CallG Try.prog 92 [lC 2 ePair p0] [.one (.so [] 0 0 (((p0).map ePair).length)), .agg [.c (sC p1.key), .c (sC p1.val)]] [] (.one (.so [] 0 0 (((v).map ePair).length))) [lC 2 ePair v] :=
  (wi_put p0 p1).callg tyOK Try.func92 rfl (outs := (fun v : (List Pair) => [])) (res := (fun v : (List Pair) => .one (.so [] 0 0 (((v).map ePair).length)))) (row := (fun v : (List Pair) => [lC 2 ePair v])) (Nat.le_of_ble_eq_true rfl) (by kernel_rfl) h

noncomputable def wi_take_c1 (p0 : Pair) (q0 : ByteArray) : Wk (Bool) :=
 .p 7 <|
 .ret ((p0.key.toList == q0.toList))
/-- impl.take$1 -/
noncomputable def i_take_c1 (p0 : Pair) (q0 : ByteArray) : Option (Bool) := (wi_take_c1 p0 q0).den
theorem k_i_take_c1 (p0 : Pair) (q0 : ByteArray) (v : Bool) (h : i_take_c1 p0 q0 = some v) : CallOK Try.prog 124 [.agg [.c (sC p0.key), .c (sC p0.val)], .one (.c (.bx [sC q0]))] (bV v) [] :=
  (wi_take_c1 p0 q0).call tyOK Try.func124 rfl (res := (fun v : Bool => bV v)) (row := (fun v : Bool => [])) (by kernel_rfl) h

noncomputable def Bsl_IndexFunc_Pair_i_take_c1_1 (p0 : (List Pair)) (q0 : ByteArray) (s1 : Int) : Wk (Int ⊕ (Unit ⊕ (Int))) :=
 .p 1 <|
 .ite (decide (s1 < (((((p0).map ePair).length : Nat) : Int))))
 (.eb <|
 .p 5 <|
 .bnd (getI p0 s1) fun x1 ex1 =>
 .s (.idx ePair ex1) <|
 .p 1 <|
 .bnd (i_take_c1 x1 q0) fun r1 er1 =>
 .s (.callv (k_i_take_c1 x1 q0 r1 er1) Try.call124 (clean_nil)) <|
 .ite (r1)
 (.p 2 <|
 .ret (.inr (.inr s1)))
 (.p 2 <|
 .ret (.inl (IntKind.wrap .i64 (s1 + 1)))))
 (.ret (.inr (.inl (()))))

noncomputable def wsl_IndexFunc_Pair_i_take_c1 (p0 : (List Pair)) (q0 : ByteArray) : Wk (Int) :=
 .p 4 <|
 .join true (ι := Unit) (fun j => ms 19 [] [])
 (.eb <|
 .loop (σ := Int) (fun s1 => ms 19 [(0, lV 2 ePair p0), (1, .one (.c (.fn 124 [.bx [sC q0]]))), (7, iV (((((p0).map ePair).length : Nat) : Int))), (8, iV s1)] []) 0 (Bsl_IndexFunc_Pair_i_take_c1_1 p0 q0)) fun j1 =>
 .p 1 <|
 .ret (-1)
/-- slices.IndexFunc[[]impl.Pair,impl.Pair] -/
noncomputable def sl_IndexFunc_Pair_i_take_c1 (p0 : (List Pair)) (q0 : ByteArray) : Option (Int) := (wsl_IndexFunc_Pair_i_take_c1 p0 q0).den
theorem k_sl_IndexFunc_Pair_i_take_c1 (p0 : (List Pair)) (q0 : ByteArray) (v : Int) (h : sl_IndexFunc_Pair_i_take_c1 p0 q0 = some v) : CallOK Try.prog 137 [lV 2 ePair p0, .one (.c (.fn 124 [.bx [sC q0]]))] (iV v) [] :=
  (wsl_IndexFunc_Pair_i_take_c1 p0 q0).call tyOK Try.func137 rfl (res := (fun v : Int => iV v)) (row := (fun v : Int => [])) (by kernel_rfl) h
structure Xsl_DeleteFunc_Pair_i_take_c1_1 where
  v5 : Int
  w0_0 : (List Pair)

structure Ssl_DeleteFunc_Pair_i_take_c1_1 where
  v5 : Int
  v6 : Int
  w0_0 : (List Pair)

structure Xsl_DeleteFunc_Pair_i_take_c1_2 where
  v5 : Int
  w0_0 : (List Pair)

noncomputable def Bsl_DeleteFunc_Pair_i_take_c1_1 (q0 : ByteArray) (s1 : Ssl_DeleteFunc_Pair_i_take_c1_1) : Wk (Ssl_DeleteFunc_Pair_i_take_c1_1 ⊕ Xsl_DeleteFunc_Pair_i_take_c1_1) :=
 .p 4 <|
 .ite (decide (s1.v6 < (((((s1.w0_0).map ePair).length : Nat) : Int))))
 (.eb <|
 .p 2 <|
 .bnd (getI s1.w0_0 s1.v6) fun x1 ex1 =>
 .s (.ixo ePair ex1) <|
 .s (.ld ePair (getI_e ex1).2) <|
 .p 4 <|
 .bnd (i_take_c1 x1 q0) fun r2 er2 =>
 .s (.callv (k_i_take_c1 x1 q0 r2 er2) Try.call124 (clean_nil)) <|
 .p 1 <|
 .jn false (ι := Xsl_DeleteFunc_Pair_i_take_c1_2) (fun j => ms 42 [(0, .one (.so [] 0 0 (((j.w0_0).map ePair).length))), (1, .one (.c (.fn 124 [.bx [sC q0]]))), (5, iV j.v5), (6, iV s1.v6)] [(0, [lC 2 ePair j.w0_0])])
 (.ite (!r2)
 (.p 3 <|
 .bnd (getI s1.w0_0 s1.v5) fun x2 ex2 =>
 .s (.ixo ePair ex2) <|
 .s (.st ePair x1 (getI_e ex2).2 rfl) <|
 .im (.says 0 (show (.one (.so [] 0 0 (((s1.w0_0).map ePair).length)) : TV) = .one (.so [] 0 0 (((s1.w0_0.set ((s1.v5).toNat) x1).map ePair).length)) by simp <;> omega)) <|
 .p 3 <|
 .ret ((⟨IntKind.wrap .i64 (s1.v5 + 1), s1.w0_0.set ((s1.v5).toNat) x1⟩ : Xsl_DeleteFunc_Pair_i_take_c1_2)))
 (.ret ((⟨s1.v5, s1.w0_0⟩ : Xsl_DeleteFunc_Pair_i_take_c1_2)))) fun j1 =>
 .p 3 <|
 .ret (.inl ((⟨j1.v5, IntKind.wrap .i64 (s1.v6 + 1), j1.w0_0⟩ : Ssl_DeleteFunc_Pair_i_take_c1_1))))
 (.ret (.inr ((⟨s1.v5, s1.w0_0⟩ : Xsl_DeleteFunc_Pair_i_take_c1_1))))

noncomputable def wsl_DeleteFunc_Pair_i_take_c1 (p0 : (List Pair)) (q0 : ByteArray) : Wk ((List Pair)) :=
 .p 3 <|
 .bnd (sl_IndexFunc_Pair_i_take_c1 p0 q0) fun r1 er1 =>
 .s (.lend (k_sl_IndexFunc_Pair_i_take_c1 p0 q0 r1 er1) Try.call137 (clean_nil)) <|
 .p 3 <|
 .ite ((r1 == (-1)))
 (.p 2 <|
 .ret p0)
 (.p 3 <|
 .jn true (ι := Xsl_DeleteFunc_Pair_i_take_c1_1) (fun j => ms 42 [(0, .one (.so [] 0 0 (((j.w0_0).map ePair).length))), (5, iV j.v5)] [(0, [lC 2 ePair j.w0_0])])
 (.eb <|
 .loop (σ := Ssl_DeleteFunc_Pair_i_take_c1_1) (fun s1 => ms 42 [(0, .one (.so [] 0 0 (((s1.w0_0).map ePair).length))), (1, .one (.c (.fn 124 [.bx [sC q0]]))), (5, iV s1.v5), (6, iV s1.v6)] [(0, [lC 2 ePair s1.w0_0])]) ((⟨r1, IntKind.wrap .i64 (r1 + 1), p0⟩ : Ssl_DeleteFunc_Pair_i_take_c1_1)) (Bsl_DeleteFunc_Pair_i_take_c1_1 q0)) fun j2 =>
 .p 2 <|
 .chk (0 ≤ (j2.v5 : Int) ∧ (j2.v5 : Int) ≤ (((((j2.w0_0).map ePair).length : Nat) : Int)) ∧ (((((j2.w0_0).map ePair).length : Nat) : Int)) ≤ ((((j2.w0_0).map ePair).length : Nat) : Int)) fun c1 =>
 .s (.sub ePair j2.w0_0 (l := j2.v5) (r := ((((j2.w0_0).map ePair).length : Nat) : Int)) (by simpa using c1)) <|
 .s (.clear ePair j2.w0_0 0 38 (lo := (j2.v5 : Int).toNat) (n := ((((((j2.w0_0).map ePair).length : Nat) : Int)) - j2.v5).toNat) (n0 := ((j2.w0_0).map ePair).length) (by first | omega | (simp <;> omega) | (simp at * <;> omega)) (by first | omega | (simp <;> omega) | (simp at * <;> omega))) <|
 .p 2 <|
 .chk (0 ≤ (0 : Int) ∧ (0 : Int) ≤ j2.v5 ∧ j2.v5 ≤ ((((j2.w0_0).map ePair).length : Nat) : Int)) fun c2 =>
 .s (.cut ePair ((j2.w0_0).take ((j2.v5 : Int).toNat)) (r := j2.v5) (n0 := ((j2.w0_0).map ePair).length) (by have := c2; simp at this ⊢; omega) (by have := c2; simp at this ⊢; omega)) <|
 .p 1 <|
 .ret (((j2.w0_0).take ((j2.v5 : Int).toNat)).take (j2.v5).toNat))
/-- slices.DeleteFunc[[]impl.Pair,impl.Pair] -/
noncomputable def sl_DeleteFunc_Pair_i_take_c1 (p0 : (List Pair)) (q0 : ByteArray) : Option ((List Pair)) := (wsl_DeleteFunc_Pair_i_take_c1 p0 q0).den
theorem k_sl_DeleteFunc_Pair_i_take_c1 (p0 : (List Pair)) (q0 : ByteArray) (v : (List Pair)) (h : sl_DeleteFunc_Pair_i_take_c1 p0 q0 = some v) : CallG Try.prog 123 [lC 2 ePair p0] [.one (.so [] 0 0 (((p0).map ePair).length)), .one (.c (.fn 124 [.bx [sC q0]]))] [] (.one (.so [] 0 0 (((v).map ePair).length))) [lC 2 ePair v] :=
  (wsl_DeleteFunc_Pair_i_take_c1 p0 q0).callg tyOK Try.func123 rfl (outs := (fun v : (List Pair) => [])) (res := (fun v : (List Pair) => .one (.so [] 0 0 (((v).map ePair).length)))) (row := (fun v : (List Pair) => [lC 2 ePair v])) (Nat.le_of_ble_eq_true rfl) (by kernel_rfl) h
noncomputable def wi_take (p0 : (List Pair)) (p1 : ByteArray) : Wk ((List Pair)) :=
 .s (.boxc) <|
 .p 2 <|
 .s (.fnv) <|
 .bnd (sl_DeleteFunc_Pair_i_take_c1 p0 p1) fun r1 er1 =>
 .s (.g (k_sl_DeleteFunc_Pair_i_take_c1 p0 p1 r1 er1) Try.call123 .nil) <|
 .p 1 <|
 .ret r1
/-- impl.take -/
noncomputable def i_take (p0 : (List Pair)) (p1 : ByteArray) : Option ((List Pair)) := (wi_take p0 p1).den
theorem k_i_take (p0 : (List Pair)) (p1 : ByteArray) (v : (List Pair)) (h : i_take p0 p1 = some v) : CallG Try.prog 93 [lC 2 ePair p0] [.one (.so [] 0 0 (((p0).map ePair).length)), sV p1] [] (.one (.so [] 0 0 (((v).map ePair).length))) [lC 2 ePair v] :=
  (wi_take p0 p1).callg tyOK Try.func93 rfl (outs := (fun v : (List Pair) => [])) (res := (fun v : (List Pair) => .one (.so [] 0 0 (((v).map ePair).length)))) (row := (fun v : (List Pair) => [lC 2 ePair v])) (Nat.le_of_ble_eq_true rfl) (by kernel_rfl) h

noncomputable def wi_KeyOk (p0 : ByteArray) : Wk (Bool) :=
 .p 3 <|
 .bnd (i_within ((p0.size : Int)) 1 16) fun r1 er1 =>
 .s (.call (k_i_within ((p0.size : Int)) 1 16 r1 er1) Try.call91) <|
 .p 1 <|
 .ret r1
/-- impl.KeyOk -/
noncomputable def i_KeyOk (p0 : ByteArray) : Option (Bool) := (wi_KeyOk p0).den
theorem k_i_KeyOk (p0 : ByteArray) (v : Bool) (h : i_KeyOk p0 = some v) : CallOK Try.prog 126 [sV p0] (bV v) [] :=
  (wi_KeyOk p0).call tyOK Try.func126 rfl (res := (fun v : Bool => bV v)) (row := (fun v : Bool => [])) (by kernel_rfl) h

noncomputable def wi_PointOf (p0 : ByteArray) : Wk (Range) :=
 .p 2 <|
 .bnd (i_KeyOk p0) fun r1 er1 =>
 .s (.call (k_i_KeyOk p0 r1 er1) Try.call126) <|
 .p 1 <|
 .ite (!r1)
 (.p 2 <|
 .ret ((⟨(⟨#[]⟩ : ByteArray), (⟨#[]⟩ : ByteArray)⟩ : Range)))
 (.p 2 <|
 .chk ((p0.size + ((⟨#[0]⟩ : ByteArray)).size ≤ 140737488355328)) fun c1 =>
 .s (.q c1) <|
 .p 2 <|
 .ret ((⟨p0, p0 ++ ((⟨#[0]⟩ : ByteArray))⟩ : Range)))
/-- impl.PointOf -/
noncomputable def i_PointOf (p0 : ByteArray) : Option (Range) := (wi_PointOf p0).den
theorem k_i_PointOf (p0 : ByteArray) (v : Range) (h : i_PointOf p0 = some v) : CallOK Try.prog 95 [sV p0] (.agg [.c (sC v.lo), .c (sC v.hi)]) [] :=
  (wi_PointOf p0).call tyOK Try.func95 rfl (res := (fun v : Range => .agg [.c (sC v.lo), .c (sC v.hi)])) (row := (fun v : Range => [])) (by kernel_rfl) h

noncomputable def wi_Range_has (p0 : Range) (p1 : ByteArray) : Wk (Bool) :=
 .p 2 <|
 .jn false (ι := Bool) (fun j => ms 20 [(4, bV j)] [])
 (.p 5 <|
 .cut 9 (!Op.bytesLess p1.toList p0.lo.toList)
 (.p 4 <|
 .cut 13 ((p0.hi.toList == ((⟨#[]⟩ : ByteArray)).toList))
 (.p 7 <|
 .ret true)
 (.p 7 <|
 .ret (Op.bytesLess p1.toList p0.hi.toList)))
 (.p 11 <|
 .ret false)) fun j1 =>
 .ret j1
/-- (impl.Range).has -/
noncomputable def i_Range_has (p0 : Range) (p1 : ByteArray) : Option (Bool) := (wi_Range_has p0 p1).den
theorem k_i_Range_has (p0 : Range) (p1 : ByteArray) (v : Bool) (h : i_Range_has p0 p1 = some v) : CallOK Try.prog 125 [.agg [.c (sC p0.lo), .c (sC p0.hi)], sV p1] (bV v) [] :=
  (wi_Range_has p0 p1).call tyOK Try.func125 rfl (res := (fun v : Bool => bV v)) (row := (fun v : Bool => [])) (by kernel_rfl) h

structure Si_scanned_1 where
  v9 : (List Pair)
  v15 : Int

structure Xi_scanned_2 where
  w11_0_0 : ByteArray
  w11_0_1 : ByteArray

noncomputable def Bi_scanned_1 (p0 : (List Pair)) (p1 : Range) (p2 : Int) (p3 : Bool) (s1 : Si_scanned_1) : Wk (Si_scanned_1 ⊕ (List Pair)) :=
 .p 1 <|
 .ite (decide (s1.v15 < (((((p0).map ePair).length : Nat) : Int))))
 (.eb <|
 .p 4 <|
 .bnd (getI p0 s1.v15) fun x1 ex1 =>
 .s (.idx ePair ex1) <|
 .p 4 <|
 .jn false (ι := Xi_scanned_2) (fun j => ms 47 [(0, lV 2 ePair p0), (2, iV p2), (3, bV p3), (5, pV 5), (9, .one (.so [] 9 0 (((s1.v9).map ePair).length))), (11, pV 11), (14, iV (((((p0).map ePair).length : Nat) : Int))), (15, iV s1.v15)] [(5, [.bx [sC p1.lo, sC p1.hi]]), (9, [lC 2 ePair s1.v9]), (11, [.bx [sC j.w11_0_0, sC j.w11_0_1]])])
 (.ite (p3)
 (.p 6 <|
 .bnd (getI p0 (IntKind.wrap .i64 ((IntKind.wrap .i64 ((((((p0).map ePair).length : Nat) : Int)) - 1)) - s1.v15))) fun x2 ex2 =>
 .s (.idx ePair ex2) <|
 .p 2 <|
 .ret ((⟨x2.key, x2.val⟩ : Xi_scanned_2)))
 (.ret ((⟨x1.key, x1.val⟩ : Xi_scanned_2)))) fun j1 =>
 .jn false (ι := Bool) (fun j => ms 47 [(0, lV 2 ePair p0), (2, iV p2), (3, bV p3), (5, pV 5), (9, .one (.so [] 9 0 (((s1.v9).map ePair).length))), (11, pV 11), (14, iV (((((p0).map ePair).length : Nat) : Int))), (15, iV s1.v15), (40, bV j)] [(5, [.bx [sC p1.lo, sC p1.hi]]), (9, [lC 2 ePair s1.v9]), (11, [.bx [sC j1.w11_0_0, sC j1.w11_0_1]])])
 (.p 3 <|
 .bnd (i_Range_has p1 j1.w11_0_0) fun r1 er1 =>
 .s (.call (k_i_Range_has p1 j1.w11_0_0 r1 er1) Try.call125) <|
 .p 1 <|
 .cut 35 (r1)
 (.p 5 <|
 .ret (decide ((((((s1.v9).map ePair).length : Nat) : Int)) < p2)))
 (.p 5 <|
 .ret false)) fun j2 =>
 .jn false (ι := (List Pair)) (fun j => ms 47 [(0, lV 2 ePair p0), (2, iV p2), (3, bV p3), (5, pV 5), (9, .one (.so [] 9 0 (((j).map ePair).length))), (14, iV (((((p0).map ePair).length : Nat) : Int))), (15, iV s1.v15)] [(5, [.bx [sC p1.lo, sC p1.hi]]), (9, [lC 2 ePair j])])
 (.ite (j2)
 (.p 3 <|
 .chk (((s1.v9).length + (([(⟨j1.w11_0_0, j1.w11_0_1⟩ : Pair)] : List Pair)).length) * 32 ≤ 140737488355328) fun c1 =>
 .s (.app ePair .lit c1) <|
 .p 1 <|
 .im (.ren 44 9 9) <|
 .ret (s1.v9 ++ ([(⟨j1.w11_0_0, j1.w11_0_1⟩ : Pair)] : List Pair)))
 (.ret s1.v9)) fun j3 =>
 .p 2 <|
 .ret (.inl ((⟨j3, IntKind.wrap .i64 (s1.v15 + 1)⟩ : Si_scanned_1))))
 (.ret (.inr s1.v9))

noncomputable def wi_scanned (p0 : (List Pair)) (p1 : Range) (p2 : Int) (p3 : Bool) : Wk ((List Pair)) :=
 .p 7 <|
 .jn true (ι := (List Pair)) (fun j => ms 47 [(9, .one (.so [] 9 0 (((j).map ePair).length)))] [(9, [lC 2 ePair j])])
 (.eb <|
 .im (.ren 12 9 9) <|
 .loop (σ := Si_scanned_1) (fun s1 => ms 47 [(0, lV 2 ePair p0), (2, iV p2), (3, bV p3), (5, pV 5), (9, .one (.so [] 9 0 (((s1.v9).map ePair).length))), (14, iV (((((p0).map ePair).length : Nat) : Int))), (15, iV s1.v15)] [(5, [.bx [sC p1.lo, sC p1.hi]]), (9, [lC 2 ePair s1.v9])]) ((⟨[], 0⟩ : Si_scanned_1)) (Bi_scanned_1 p0 p1 p2 p3)) fun j4 =>
 .p 2 <|
 .ret j4
/-- impl.scanned -/
noncomputable def i_scanned (p0 : (List Pair)) (p1 : Range) (p2 : Int) (p3 : Bool) : Option ((List Pair)) := (wi_scanned p0 p1 p2 p3).den
theorem k_i_scanned (p0 : (List Pair)) (p1 : Range) (p2 : Int) (p3 : Bool) (v : (List Pair)) (h : i_scanned p0 p1 p2 p3 = some v) : CallOK Try.prog 94 [lV 2 ePair p0, .agg [.c (sC p1.lo), .c (sC p1.hi)], iV p2, bV p3] (.one (.so [] 0 0 (((v).map ePair).length))) [lC 2 ePair v] :=
  (wi_scanned p0 p1 p2 p3).call tyOK Try.func94 rfl (res := (fun v : (List Pair) => .one (.so [] 0 0 (((v).map ePair).length)))) (row := (fun v : (List Pair) => [lC 2 ePair v])) (by kernel_rfl) h

noncomputable def wi_runAsk (p0 : (List Pair)) (p1 : Ask) : Wk ((List Pair) × (List Pair)) :=
 .p 4 <|
 .bnd (i_copyPairs p0) fun r1 er1 =>
 .s (.call (k_i_copyPairs p0 r1 er1) Try.call78) <|
 .p 3 <|
 .eb <|
 .p 2 <|
 .ite ((p1.kind == 2))
 (.p 6 <|
 .bnd (i_put r1 ((⟨p1.key, p1.val⟩ : Pair))) fun r2 er2 =>
 .s (.g (k_i_put r1 ((⟨p1.key, p1.val⟩ : Pair)) r2 er2) Try.call92 .nil) <|
 .p 2 <|
 .im (.nilo 5 5 2) <|
 .ret ((r2, [])))
 (.p 2 <|
 .ite ((p1.kind == 3))
 (.p 3 <|
 .bnd (i_take r1 p1.key) fun r3 er3 =>
 .s (.g (k_i_take r1 p1.key r3 er3) Try.call93 .nil) <|
 .p 2 <|
 .im (.nilo 5 5 2) <|
 .ret ((r3, [])))
 (.p 2 <|
 .ite ((p1.kind == 1))
 (.p 4 <|
 .bnd (i_PointOf p1.key) fun r4 er4 =>
 .s (.call (k_i_PointOf p1.key r4 er4) Try.call95) <|
 .bnd (i_scanned p0 r4 1 false) fun r5 er5 =>
 .s (.call (k_i_scanned p0 r4 1 false r5 er5) Try.call94) <|
 .p 2 <|
 .ret ((r1, r5)))
 (.p 8 <|
 .bnd (i_scanned p0 p1.range p1.most p1.back) fun r6 er6 =>
 .s (.call (k_i_scanned p0 p1.range p1.most p1.back r6 er6) Try.call94) <|
 .p 2 <|
 .ret ((r1, r6)))))
/-- impl.runAsk -/
noncomputable def i_runAsk (p0 : (List Pair)) (p1 : Ask) : Option ((List Pair) × (List Pair)) := (wi_runAsk p0 p1).den
theorem k_i_runAsk (p0 : (List Pair)) (p1 : Ask) (v : (List Pair) × (List Pair)) (h : i_runAsk p0 p1 = some v) : CallOK Try.prog 49 [lV 2 ePair p0, .agg [.c (iC p1.kind), .c (sC p1.key), .c (sC p1.val), .c (sC p1.range.lo), .c (sC p1.range.hi), .c (iC p1.most), .c (bC p1.back)]] (.tup [.one (.so [] 0 0 (((v.1).map ePair).length)), .one (.so [] 0 1 (((v.2).map ePair).length))]) [lC 2 ePair v.1, lC 2 ePair v.2] :=
  (wi_runAsk p0 p1).call tyOK Try.func49 rfl (res := (fun v : (List Pair) × (List Pair) => .tup [.one (.so [] 0 0 (((v.1).map ePair).length)), .one (.so [] 0 1 (((v.2).map ePair).length))])) (row := (fun v : (List Pair) × (List Pair) => [lC 2 ePair v.1, lC 2 ePair v.2])) (by kernel_rfl) h


end Go.Proofs.Ytagoajkiccgmjaa
namespace Go.Proofs.Ytagoajkiccgmjaa
open Go.Mv Go.RowKit

noncomputable def wi_RunAsk (p0 : (List Pair)) (p1 : Ask) : Wk ((List Pair) × (List Pair) × Bool) :=
 .p 4 <|
 .jn false (ι := Bool) (fun j => ms 25 [(0, lV 2 ePair p0), (3, pV 3), (16, bV j)] [(3, [.bx [iC p1.kind, sC p1.key, sC p1.val, sC p1.range.lo, sC p1.range.hi, iC p1.most, bC p1.back]])])
 (.p 1 <|
 .bnd (i_DataOk p0) fun r1 er1 =>
 .s (.call (k_i_DataOk p0 r1 er1) Try.call26) <|
 .p 2 <|
 .cut 12 (!r1)
 (.p 4 <|
 .ret true)
 (.p 1 <|
 .bnd (i_AskOk p1) fun r2 er2 =>
 .s (.call (k_i_AskOk p1 r2 er2) Try.call48) <|
 .p 2 <|
 .ret (!r2))) fun j1 =>
 .ite (j1)
 (.p 3 <|
 .im (.nilo 4 4 2) <|
 .im (.nilo 5 5 2) <|
 .ret (([], [], false)))
 (.p 2 <|
 .bnd (i_runAsk p0 p1) fun r3 er3 =>
 .s (.call (k_i_runAsk p0 p1 r3 er3) Try.call49) <|
 .p 10 <|
 .ret ((r3.1, r3.2, true)))
/-- impl.RunAsk -/
noncomputable def i_RunAsk (p0 : (List Pair)) (p1 : Ask) : Option ((List Pair) × (List Pair) × Bool) := (wi_RunAsk p0 p1).den
theorem k_i_RunAsk (p0 : (List Pair)) (p1 : Ask) (v : (List Pair) × (List Pair) × Bool) (h : i_RunAsk p0 p1 = some v) : CallOK Try.prog 13 [lV 2 ePair p0, .agg [.c (iC p1.kind), .c (sC p1.key), .c (sC p1.val), .c (sC p1.range.lo), .c (sC p1.range.hi), .c (iC p1.most), .c (bC p1.back)]] (.tup [.one (.so [] 0 0 (((v.1).map ePair).length)), .one (.so [] 0 1 (((v.2.1).map ePair).length)), .one (.c (bC v.2.2))]) [lC 2 ePair v.1, lC 2 ePair v.2.1] :=
  (wi_RunAsk p0 p1).call tyOK Try.func13 rfl (res := (fun v : (List Pair) × (List Pair) × Bool => .tup [.one (.so [] 0 0 (((v.1).map ePair).length)), .one (.so [] 0 1 (((v.2.1).map ePair).length)), .one (.c (bC v.2.2))])) (row := (fun v : (List Pair) × (List Pair) × Bool => [lC 2 ePair v.1, lC 2 ePair v.2.1])) (by kernel_rfl) h

noncomputable def ws_UserOk (p0 : ByteArray) : Wk (Bool) :=
 .p 1 <|
 .jn false (ι := Bool) (fun j => ms 11 [(2, bV j)] [])
 (.p 4 <|
 .cut 6 (decide (((p0.size : Int)) ≥ 1))
 (.p 5 <|
 .ret (decide (((p0.size : Int)) ≤ 8)))
 (.p 5 <|
 .ret false)) fun j1 =>
 .ret j1
/-- spec.UserOk -/
noncomputable def s_UserOk (p0 : ByteArray) : Option (Bool) := (ws_UserOk p0).den
theorem k_s_UserOk (p0 : ByteArray) (v : Bool) (h : s_UserOk p0 = some v) : CallOK Try.prog 83 [sV p0] (bV v) [] :=
  (ws_UserOk p0).call tyOK Try.func83 rfl (res := (fun v : Bool => bV v)) (row := (fun v : Bool => [])) (by kernel_rfl) h

noncomputable def ws_UvalOk (p0 : ByteArray) : Wk (Bool) :=
 .p 5 <|
 .ret (decide (((p0.size : Int)) ≤ 20))
/-- spec.UvalOk -/
noncomputable def s_UvalOk (p0 : ByteArray) : Option (Bool) := (ws_UvalOk p0).den
theorem k_s_UvalOk (p0 : ByteArray) (v : Bool) (h : s_UvalOk p0 = some v) : CallOK Try.prog 84 [sV p0] (bV v) [] :=
  (ws_UvalOk p0).call tyOK Try.func84 rfl (res := (fun v : Bool => bV v)) (row := (fun v : Bool => [])) (by kernel_rfl) h

noncomputable def Bs_DataOk_1 (p0 : (List Pair)) (s1 : Int) : Wk (Int ⊕ (Unit ⊕ (Bool))) :=
 .p 1 <|
 .ite (decide (s1 < (((((p0).map ePair).length : Nat) : Int))))
 (.eb <|
 .p 1 <|
 .bnd (getI p0 s1) fun x1 ex1 =>
 .s (.idx ePair ex1) <|
 .p 4 <|
 .jn false (ι := Bool) (fun j => ms 38 [(0, lV 2 ePair p0), (5, lV 2 ePair p0), (6, iV (((((p0).map ePair).length : Nat) : Int))), (7, iV s1), (36, bV j)] [])
 (.bnd (s_UserOk x1.key) fun r1 er1 =>
 .cs (!r1)
 (fun h2 => .drawn [] [(2, .call (k_s_UserOk x1.key r1 er1) Try.call83), (4, .kn (.pl) 16 h2)] (ms 38 [(0, lV 2 ePair p0), (5, lV 2 ePair p0), (6, iV (((((p0).map ePair).length : Nat) : Int))), (7, iV s1), (36, bV true)] []) <|
 .ret true)
 (fun h2 => .bnd (s_UvalOk x1.val) fun r2 er2 =>
 .cs (!r2)
 (fun h3 => .drawn [] [(2, .call (k_s_UserOk x1.key r1 er1) Try.call83), (4, .kn (.pl) 16 h2), (7, .call (k_s_UvalOk x1.val r2 er2) Try.call84), (10, .kn (.pl) 22 h3)] (ms 38 [(0, lV 2 ePair p0), (5, lV 2 ePair p0), (6, iV (((((p0).map ePair).length : Nat) : Int))), (7, iV s1), (36, bV true)] []) <|
 .ret true)
 (fun h3 => .cs (decide (s1 > 0))
 (fun h4 => .bnd (getI p0 (IntKind.wrap .i64 (s1 - 1))) fun x2 ex2 =>
 .drawn [] [(2, .call (k_s_UserOk x1.key r1 er1) Try.call83), (4, .kn (.pl) 16 h2), (7, .call (k_s_UvalOk x1.val r2 er2) Try.call84), (10, .kn (.pl) 22 h3), (13, .kn (.pl) 25 h4), (17, .idx ePair ex2)] (ms 38 [(0, lV 2 ePair p0), (5, lV 2 ePair p0), (6, iV (((((p0).map ePair).length : Nat) : Int))), (7, iV s1), (36, bV (!Op.bytesLess x2.key.toList x1.key.toList))] []) <|
 .ret (!Op.bytesLess x2.key.toList x1.key.toList))
 (fun h4 => .drawn [] [(2, .call (k_s_UserOk x1.key r1 er1) Try.call83), (4, .kn (.pl) 16 h2), (7, .call (k_s_UvalOk x1.val r2 er2) Try.call84), (10, .kn (.pl) 22 h3), (13, .kn (.pl) 25 h4)] (ms 38 [(0, lV 2 ePair p0), (5, lV 2 ePair p0), (6, iV (((((p0).map ePair).length : Nat) : Int))), (7, iV s1), (36, bV false)] []) <|
 .ret false)))) fun j1 =>
 .ite (j1)
 (.p 1 <|
 .ret (.inr (.inr false)))
 (.p 2 <|
 .ret (.inl (IntKind.wrap .i64 (s1 + 1)))))
 (.ret (.inr (.inl (()))))

noncomputable def ws_DataOk (p0 : (List Pair)) : Wk (Bool) :=
 .p 4 <|
 .join true (ι := Unit) (fun j => ms 38 [] [])
 (.eb <|
 .loop (σ := Int) (fun s1 => ms 38 [(0, lV 2 ePair p0), (5, lV 2 ePair p0), (6, iV (((((p0).map ePair).length : Nat) : Int))), (7, iV s1)] []) 0 (Bs_DataOk_1 p0)) fun j2 =>
 .p 1 <|
 .ret true
/-- spec.DataOk -/
noncomputable def s_DataOk (p0 : (List Pair)) : Option (Bool) := (ws_DataOk p0).den
theorem k_s_DataOk (p0 : (List Pair)) (v : Bool) (h : s_DataOk p0 = some v) : CallOK Try.prog 42 [lV 2 ePair p0] (bV v) [] :=
  (ws_DataOk p0).call tyOK Try.func42 rfl (res := (fun v : Bool => bV v)) (row := (fun v : Bool => [])) (by kernel_rfl) h

noncomputable def ws_RangeOk (p0 : Range) : Wk (Bool) :=
 .p 2 <|
 .jn false (ι := Bool) (fun j => ms 23 [(1, pV 1), (12, bV j)] [(1, [.bx [sC p0.lo, sC p0.hi]])])
 (.p 5 <|
 .cut 7 (decide (((p0.lo.size : Int)) > 17))
 (.p 5 <|
 .ret true)
 (.p 5 <|
 .ret (decide (((p0.hi.size : Int)) > 17)))) fun j1 =>
 .ite (j1)
 (.p 1 <|
 .ret false)
 (.jn false (ι := Bool) (fun j => ms 23 [(2, bV j)] [])
 (.p 4 <|
 .cut 16 ((p0.hi.toList == ((⟨#[]⟩ : ByteArray)).toList))
 (.p 7 <|
 .ret true)
 (.p 7 <|
 .ret (Op.bytesLess p0.lo.toList p0.hi.toList))) fun j2 =>
 .ret j2)
/-- spec.RangeOk -/
noncomputable def s_RangeOk (p0 : Range) : Option (Bool) := (ws_RangeOk p0).den
theorem k_s_RangeOk (p0 : Range) (v : Bool) (h : s_RangeOk p0 = some v) : CallOK Try.prog 86 [.agg [.c (sC p0.lo), .c (sC p0.hi)]] (bV v) [] :=
  (ws_RangeOk p0).call tyOK Try.func86 rfl (res := (fun v : Bool => bV v)) (row := (fun v : Bool => [])) (by kernel_rfl) h

noncomputable def ws_ReachOk (p0 : Range) : Wk (Bool) :=
 .p 2 <|
 .jn false (ι := Bool) (fun j => ms 17 [(2, bV j)] [])
 (.p 1 <|
 .bnd (s_RangeOk p0) fun r1 er1 =>
 .s (.call (k_s_RangeOk p0 r1 er1) Try.call86) <|
 .p 1 <|
 .cut 5 (r1)
 (.p 6 <|
 .cut 11 (decide (((p0.lo.size : Int)) ≤ 9))
 (.p 6 <|
 .ret (decide (((p0.hi.size : Int)) ≤ 9)))
 (.p 6 <|
 .ret false))
 (.p 12 <|
 .ret false)) fun j1 =>
 .ret j1
/-- spec.ReachOk -/
noncomputable def s_ReachOk (p0 : Range) : Option (Bool) := (ws_ReachOk p0).den
theorem k_s_ReachOk (p0 : Range) (v : Bool) (h : s_ReachOk p0 = some v) : CallOK Try.prog 85 [.agg [.c (sC p0.lo), .c (sC p0.hi)]] (bV v) [] :=
  (ws_ReachOk p0).call tyOK Try.func85 rfl (res := (fun v : Bool => bV v)) (row := (fun v : Bool => [])) (by kernel_rfl) h

noncomputable def ws_AskOk (p0 : Ask) : Wk (Bool) :=
 .p 8 <|
 .ite ((p0.kind == 4))
 (.jn false (ι := Bool) (fun j => ms 73 [(2, bV j)] [])
 (.p 4 <|
 .cut 11 ((p0.key.toList == ((⟨#[]⟩ : ByteArray)).toList))
 (.p 5 <|
 .cut 16 ((p0.val.toList == ((⟨#[]⟩ : ByteArray)).toList))
 (.p 2 <|
 .bnd (s_ReachOk p0.range) fun r1 er1 =>
 .s (.call (k_s_ReachOk p0.range r1 er1) Try.call85) <|
 .p 2 <|
 .cut 21 (r1)
 (.p 5 <|
 .cut 26 (decide (p0.most ≥ 1))
 (.p 5 <|
 .ret (decide (p0.most ≤ 8)))
 (.p 5 <|
 .ret false))
 (.p 10 <|
 .ret false))
 (.p 15 <|
 .ret false))
 (.p 20 <|
 .ret false)) fun j1 =>
 .ret j1)
 (.jn false (ι := Bool) (fun j => ms 73 [(1, pV 1), (3, pV 3), (38, bV j)] [(1, [.bx [iC p0.kind, sC p0.key, sC p0.val, sC p0.range.lo, sC p0.range.hi, iC p0.most, bC p0.back]]), (3, [.bx [sC ((⟨#[]⟩ : ByteArray)), sC ((⟨#[]⟩ : ByteArray))]])])
 (.p 4 <|
 .cut 34 ((p0.kind != 2))
 (.p 4 <|
 .ret (!(p0.val.toList == ((⟨#[]⟩ : ByteArray)).toList)))
 (.p 4 <|
 .ret false)) fun j2 =>
 .ite (j2)
 (.p 1 <|
 .ret false)
 (.jn false (ι := Bool) (fun j => ms 73 [(2, bV j)] [])
 (.p 4 <|
 .cut 42 (decide (p0.kind ≥ 1))
 (.p 5 <|
 .cut 47 (decide (p0.kind ≤ 3))
 (.p 2 <|
 .bnd (s_UserOk p0.key) fun r1 er1 =>
 .s (.call (k_s_UserOk p0.key r1 er1) Try.call83) <|
 .p 2 <|
 .cut 52 (r1)
 (.p 2 <|
 .bnd (s_UvalOk p0.val) fun r2 er2 =>
 .s (.call (k_s_UvalOk p0.val r2 er2) Try.call84) <|
 .p 2 <|
 .cut 57 (r2)
 (.p 6 <|
 .cut 63 (((p0.range.lo.toList == ((⟨#[]⟩ : ByteArray)).toList) && ((p0.range.hi.toList == ((⟨#[]⟩ : ByteArray)).toList) && true)))
 (.p 5 <|
 .cut 68 ((p0.most == 0))
 (.p 5 <|
 .ret (!p0.back))
 (.p 5 <|
 .ret false))
 (.p 10 <|
 .ret false))
 (.p 16 <|
 .ret false))
 (.p 21 <|
 .ret false))
 (.p 26 <|
 .ret false))
 (.p 31 <|
 .ret false)) fun j3 =>
 .ret j3))
/-- spec.AskOk -/
noncomputable def s_AskOk (p0 : Ask) : Option (Bool) := (ws_AskOk p0).den
theorem k_s_AskOk (p0 : Ask) (v : Bool) (h : s_AskOk p0 = some v) : CallOK Try.prog 43 [.agg [.c (iC p0.kind), .c (sC p0.key), .c (sC p0.val), .c (sC p0.range.lo), .c (sC p0.range.hi), .c (iC p0.most), .c (bC p0.back)]] (bV v) [] :=
  (ws_AskOk p0).call tyOK Try.func43 rfl (res := (fun v : Bool => bV v)) (row := (fun v : Bool => [])) (by kernel_rfl) h

noncomputable def ws_RangeHas (p0 : Range) (p1 : ByteArray) : Wk (Bool) :=
 .p 2 <|
 .jn false (ι := Bool) (fun j => ms 28 [(4, bV j)] [])
 (.p 1 <|
 .bnd (s_RangeOk p0) fun r1 er1 =>
 .s (.call (k_s_RangeOk p0 r1 er1) Try.call86) <|
 .p 1 <|
 .cut 7 (r1)
 (.p 1 <|
 .bnd (s_KeyOk p1) fun r2 er2 =>
 .s (.call (k_s_KeyOk p1 r2 er2) Try.call87) <|
 .p 2 <|
 .cut 11 (r2)
 (.p 6 <|
 .cut 17 ((Op.bytesLess p0.lo.toList p1.toList || p0.lo.toList == p1.toList))
 (.p 4 <|
 .cut 21 ((p0.hi.toList == ((⟨#[]⟩ : ByteArray)).toList))
 (.p 7 <|
 .ret true)
 (.p 7 <|
 .ret (Op.bytesLess p1.toList p0.hi.toList)))
 (.p 11 <|
 .ret false))
 (.p 17 <|
 .ret false))
 (.p 21 <|
 .ret false)) fun j1 =>
 .ret j1
/-- spec.RangeHas -/
noncomputable def s_RangeHas (p0 : Range) (p1 : ByteArray) : Option (Bool) := (ws_RangeHas p0 p1).den
theorem k_s_RangeHas (p0 : Range) (p1 : ByteArray) (v : Bool) (h : s_RangeHas p0 p1 = some v) : CallOK Try.prog 45 [.agg [.c (sC p0.lo), .c (sC p0.hi)], sV p1] (bV v) [] :=
  (ws_RangeHas p0 p1).call tyOK Try.func45 rfl (res := (fun v : Bool => bV v)) (row := (fun v : Bool => [])) (by kernel_rfl) h

structure Ss_RunAsk_1 where
  v7 : (List Pair)
  v41 : Int

structure Xs_RunAsk_4 where
  w9_0_0 : ByteArray
  w9_0_1 : ByteArray

noncomputable def Bs_RunAsk_1 (p0 : (List Pair)) (p1 : Ask) (s1 : Ss_RunAsk_1) : Wk (Ss_RunAsk_1 ⊕ (List Pair)) :=
 .p 1 <|
 .ite (decide (s1.v41 < (((((p0).map ePair).length : Nat) : Int))))
 (.eb <|
 .p 4 <|
 .bnd (getI p0 s1.v41) fun x1 ex1 =>
 .s (.idx ePair ex1) <|
 .p 5 <|
 .jn false (ι := Xs_RunAsk_4) (fun j => ms 96 [(0, lV 2 ePair p0), (3, pV 3), (7, .one (.so [] 7 0 (((s1.v7).map ePair).length))), (9, pV 9), (40, iV (((((p0).map ePair).length : Nat) : Int))), (41, iV s1.v41)] [(3, [.bx [iC p1.kind, sC p1.key, sC p1.val, sC p1.range.lo, sC p1.range.hi, iC p1.most, bC p1.back]]), (7, [lC 2 ePair s1.v7]), (9, [.bx [sC j.w9_0_0, sC j.w9_0_1]])])
 (.ite (p1.back)
 (.p 6 <|
 .bnd (getI p0 (IntKind.wrap .i64 ((IntKind.wrap .i64 ((((((p0).map ePair).length : Nat) : Int)) - 1)) - s1.v41))) fun x2 ex2 =>
 .s (.idx ePair ex2) <|
 .p 2 <|
 .ret ((⟨x2.key, x2.val⟩ : Xs_RunAsk_4)))
 (.ret ((⟨x1.key, x1.val⟩ : Xs_RunAsk_4)))) fun j3 =>
 .jn false (ι := Bool) (fun j => ms 96 [(0, lV 2 ePair p0), (3, pV 3), (7, .one (.so [] 7 0 (((s1.v7).map ePair).length))), (9, pV 9), (40, iV (((((p0).map ePair).length : Nat) : Int))), (41, iV s1.v41), (86, bV j)] [(3, [.bx [iC p1.kind, sC p1.key, sC p1.val, sC p1.range.lo, sC p1.range.hi, iC p1.most, bC p1.back]]), (7, [lC 2 ePair s1.v7]), (9, [.bx [sC j3.w9_0_0, sC j3.w9_0_1]])])
 (.p 4 <|
 .cut 61 ((p1.kind == 1))
 (.p 7 <|
 .cut 68 ((j3.w9_0_0.toList == p1.key.toList))
 (.p 18 <|
 .ret true)
 (.p 4 <|
 .cut 72 ((p1.kind == 4))
 (.p 4 <|
 .bnd (s_RangeHas p1.range j3.w9_0_0) fun r4 er4 =>
 .s (.call (k_s_RangeHas p1.range j3.w9_0_0 r4 er4) Try.call45) <|
 .p 2 <|
 .cut 79 (r4)
 (.p 7 <|
 .ret (decide ((((((s1.v7).map ePair).length : Nat) : Int)) < p1.most)))
 (.p 7 <|
 .ret false))
 (.p 14 <|
 .ret false)))
 (.p 11 <|
 .cut 72 ((p1.kind == 4))
 (.p 4 <|
 .bnd (s_RangeHas p1.range j3.w9_0_0) fun r4 er4 =>
 .s (.call (k_s_RangeHas p1.range j3.w9_0_0 r4 er4) Try.call45) <|
 .p 2 <|
 .cut 79 (r4)
 (.p 7 <|
 .ret (decide ((((((s1.v7).map ePair).length : Nat) : Int)) < p1.most)))
 (.p 7 <|
 .ret false))
 (.p 14 <|
 .ret false))) fun j4 =>
 .jn false (ι := (List Pair)) (fun j => ms 96 [(0, lV 2 ePair p0), (3, pV 3), (7, .one (.so [] 7 0 (((j).map ePair).length))), (40, iV (((((p0).map ePair).length : Nat) : Int))), (41, iV s1.v41)] [(3, [.bx [iC p1.kind, sC p1.key, sC p1.val, sC p1.range.lo, sC p1.range.hi, iC p1.most, bC p1.back]]), (7, [lC 2 ePair j])])
 (.ite (j4)
 (.p 3 <|
 .chk (((s1.v7).length + (([(⟨j3.w9_0_0, j3.w9_0_1⟩ : Pair)] : List Pair)).length) * 32 ≤ 140737488355328) fun c2 =>
 .s (.app ePair .lit c2) <|
 .p 1 <|
 .im (.ren 90 7 7) <|
 .ret (s1.v7 ++ ([(⟨j3.w9_0_0, j3.w9_0_1⟩ : Pair)] : List Pair)))
 (.ret s1.v7)) fun j5 =>
 .p 2 <|
 .ret (.inl ((⟨j5, IntKind.wrap .i64 (s1.v41 + 1)⟩ : Ss_RunAsk_1))))
 (.ret (.inr s1.v7))

noncomputable def ws_RunAsk (p0 : (List Pair)) (p1 : Ask) : Wk ((List Pair) × (List Pair) × Bool) :=
 .p 4 <|
 .jn false (ι := Bool) (fun j => ms 96 [(0, lV 2 ePair p0), (3, pV 3), (17, bV j)] [(3, [.bx [iC p1.kind, sC p1.key, sC p1.val, sC p1.range.lo, sC p1.range.hi, iC p1.most, bC p1.back]])])
 (.p 1 <|
 .bnd (s_DataOk p0) fun r1 er1 =>
 .s (.call (k_s_DataOk p0 r1 er1) Try.call42) <|
 .p 2 <|
 .cut 13 (!r1)
 (.p 4 <|
 .ret true)
 (.p 1 <|
 .bnd (s_AskOk p1) fun r2 er2 =>
 .s (.call (k_s_AskOk p1 r2 er2) Try.call43) <|
 .p 2 <|
 .ret (!r2))) fun j1 =>
 .ite (j1)
 (.p 3 <|
 .im (.nilo 4 4 2) <|
 .im (.nilo 5 5 2) <|
 .ret (([], [], false)))
 (.jn false (ι := Bool) (fun j => ms 96 [(0, lV 2 ePair p0), (3, pV 3), (25, bV j)] [(3, [.bx [iC p1.kind, sC p1.key, sC p1.val, sC p1.range.lo, sC p1.range.hi, iC p1.most, bC p1.back]])])
 (.p 4 <|
 .cut 21 ((p1.kind == 2))
 (.p 4 <|
 .ret true)
 (.p 4 <|
 .ret ((p1.kind == 3)))) fun j2 =>
 .ite (j2)
 (.chk (((([] : List Pair)).length + (p0).length) * 32 ≤ 140737488355328) fun c1 =>
 .bnd (s_l10Put p0 ((⟨p1.key, p1.val, (p1.kind == 3)⟩ : Edit))) fun r3 er3 =>
 .drawn [2] [(2, .app ePair .ro c1), (11, .lend (k_s_l10Put p0 ((⟨p1.key, p1.val, (p1.kind == 3)⟩ : Edit)) r3 er3) Try.call44 (clean_cons (clean_map cl_Pair _) (clean_nil)))] (ms 96 [(4, .one (.so [] 37 0 (((r3).map ePair).length))), (5, .one (.c (.v (.slice none 0 0)))), (6, bV true)] [(37, [lC 2 ePair r3])]) <|
 .im (.nilo 5 5 2) <|
 .ret ((r3, [], true)))
 (.p 5 <|
 .jn true (ι := (List Pair)) (fun j => ms 96 [(0, lV 2 ePair p0), (7, .one (.so [] 7 0 (((j).map ePair).length)))] [(7, [lC 2 ePair j])])
 (.eb <|
 .im (.ren 38 7 7) <|
 .loop (σ := Ss_RunAsk_1) (fun s1 => ms 96 [(0, lV 2 ePair p0), (3, pV 3), (7, .one (.so [] 7 0 (((s1.v7).map ePair).length))), (40, iV (((((p0).map ePair).length : Nat) : Int))), (41, iV s1.v41)] [(3, [.bx [iC p1.kind, sC p1.key, sC p1.val, sC p1.range.lo, sC p1.range.hi, iC p1.most, bC p1.back]]), (7, [lC 2 ePair s1.v7])]) ((⟨[], 0⟩ : Ss_RunAsk_1)) (Bs_RunAsk_1 p0 p1)) fun j6 =>
 .p 2 <|
 .chk (((([] : List Pair)).length + (p0).length) * 32 ≤ 140737488355328) fun c3 =>
 .s (.app ePair .ro c3) <|
 .p 4 <|
 .ret ((p0, j6, true))))
/-- spec.RunAsk -/
noncomputable def s_RunAsk (p0 : (List Pair)) (p1 : Ask) : Option ((List Pair) × (List Pair) × Bool) := (ws_RunAsk p0 p1).den
theorem k_s_RunAsk (p0 : (List Pair)) (p1 : Ask) (v : (List Pair) × (List Pair) × Bool) (h : s_RunAsk p0 p1 = some v) : CallOK Try.prog 10 [lV 2 ePair p0, .agg [.c (iC p1.kind), .c (sC p1.key), .c (sC p1.val), .c (sC p1.range.lo), .c (sC p1.range.hi), .c (iC p1.most), .c (bC p1.back)]] (.tup [.one (.so [] 0 0 (((v.1).map ePair).length)), .one (.so [] 0 1 (((v.2.1).map ePair).length)), .one (.c (bC v.2.2))]) [lC 2 ePair v.1, lC 2 ePair v.2.1] :=
  (ws_RunAsk p0 p1).call tyOK Try.func10 rfl (res := (fun v : (List Pair) × (List Pair) × Bool => .tup [.one (.so [] 0 0 (((v.1).map ePair).length)), .one (.so [] 0 1 (((v.2.1).map ePair).length)), .one (.c (bC v.2.2))])) (row := (fun v : (List Pair) × (List Pair) × Bool => [lC 2 ePair v.1, lC 2 ePair v.2.1])) (by kernel_rfl) h

noncomputable def Bw_samePairs_1 (p0 : (List Pair)) (p1 : (List Pair)) (s1 : Int) : Wk (Int ⊕ (Unit ⊕ (Bool))) :=
 .p 1 <|
 .ite (decide (s1 < (((((p0).map ePair).length : Nat) : Int))))
 (.eb <|
 .p 2 <|
 .bnd (getI p0 s1) fun x1 ex1 =>
 .bnd (getI p1 s1) fun x2 ex2 =>
 .drawn [] [(2, .idx ePair ex1), (6, .idx ePair ex2)] (ms 26 [(0, lV 2 ePair p0), (1, lV 2 ePair p1), (12, iV (((((p0).map ePair).length : Nat) : Int))), (13, iV s1), (24, bV (!((x1.key.toList == x2.key.toList) && ((x1.val.toList == x2.val.toList) && true))))] []) <|
 .ite (!((x1.key.toList == x2.key.toList) && ((x1.val.toList == x2.val.toList) && true)))
 (.p 1 <|
 .ret (.inr (.inr false)))
 (.p 2 <|
 .ret (.inl (IntKind.wrap .i64 (s1 + 1)))))
 (.ret (.inr (.inl (()))))

noncomputable def ww_samePairs (p0 : (List Pair)) (p1 : (List Pair)) : Wk (Bool) :=
 .p 6 <|
 .ite (((((((p0).map ePair).length : Nat) : Int)) != (((((p1).map ePair).length : Nat) : Int))))
 (.p 1 <|
 .ret false)
 (.p 3 <|
 .join true (ι := Unit) (fun j => ms 26 [] [])
 (.eb <|
 .loop (σ := Int) (fun s1 => ms 26 [(0, lV 2 ePair p0), (1, lV 2 ePair p1), (12, iV (((((p0).map ePair).length : Nat) : Int))), (13, iV s1)] []) 0 (Bw_samePairs_1 p0 p1)) fun j1 =>
 .p 1 <|
 .ret true)
/-- laws.samePairs -/
noncomputable def w_samePairs (p0 : (List Pair)) (p1 : (List Pair)) : Option (Bool) := (ww_samePairs p0 p1).den
theorem k_w_samePairs (p0 : (List Pair)) (p1 : (List Pair)) (v : Bool) (h : w_samePairs p0 p1 = some v) : CallOK Try.prog 25 [lV 2 ePair p0, lV 2 ePair p1] (bV v) [] :=
  (ww_samePairs p0 p1).call tyOK Try.func25 rfl (res := (fun v : Bool => bV v)) (row := (fun v : Bool => [])) (by kernel_rfl) h

noncomputable def ww_FnRunAsk (p0 : (List Int)) : Wk (Bool) :=
 .p 4 <|
 .ite (decide ((((((p0).map eN_u8).length : Nat) : Int)) > 1048576))
 (.p 1 <|
 .ret true)
 (.p 1 <|
 .bnd (s_DrawRunAsk p0) fun r1 er1 =>
 .s (.call (k_s_DrawRunAsk p0 r1 er1) Try.call24) <|
 .p 8 <|
 .bnd (i_RunAsk r1.1 r1.2) fun r2 er2 =>
 .s (.lend (k_i_RunAsk r1.1 r1.2 r2 er2) Try.call13 (clean_cons (clean_map cl_Pair _) (clean_cons (clean_map cl_Pair _) (clean_nil)))) <|
 .p 9 <|
 .bnd (s_RunAsk r1.1 r1.2) fun r3 er3 =>
 .s (.lend (k_s_RunAsk r1.1 r1.2 r3 er3) Try.call10 (clean_cons (clean_map cl_Pair _) (clean_cons (clean_map cl_Pair _) (clean_nil)))) <|
 .p 10 <|
 .ite (!(r2.2.2 == r3.2.2))
 (.p 1 <|
 .ret false)
 (.p 2 <|
 .ite (!r2.2.2)
 (.jn false (ι := Bool) (fun j => ms 102 [(2, bV j)] [])
 (.p 4 <|
 .cut 44 (((((((r2.1).map ePair).length : Nat) : Int)) == 0))
 (.p 5 <|
 .ret (((((((r2.2.1).map ePair).length : Nat) : Int)) == 0)))
 (.p 5 <|
 .ret false)) fun j1 =>
 .ret j1)
 (.jn false (ι := Bool) (fun j => ms 102 [(3, .one (.so [] 19 0 (((r1.1).map ePair).length))), (4, pV 4), (5, .one (.so [] 25 0 (((r2.1).map ePair).length))), (6, .one (.so [] 25 1 (((r2.2.1).map ePair).length))), (56, bV j)] [(4, [.bx [iC r1.2.kind, sC r1.2.key, sC r1.2.val, sC r1.2.range.lo, sC r1.2.range.hi, iC r1.2.most, bC r1.2.back]]), (19, [lC 2 ePair r1.1]), (25, [lC 2 ePair r2.1, lC 2 ePair r2.2.1])])
 (.p 4 <|
 .cut 52 ((r1.2.kind == 1))
 (.p 4 <|
 .ret true)
 (.p 4 <|
 .ret ((r1.2.kind == 4)))) fun j2 =>
 .ite (j2)
 (.jn false (ι := Bool) (fun j => ms 102 [(2, bV j)] [])
 (.p 2 <|
 .bnd (w_samePairs r2.1 r1.1) fun r4 er4 =>
 .s (.lend (k_w_samePairs r2.1 r1.1 r4 er4) Try.call25 (clean_nil)) <|
 .p 1 <|
 .cut 60 (r4)
 (.p 5 <|
 .ret (decide ((((((r2.2.1).map ePair).length : Nat) : Int)) ≤ 8)))
 (.p 5 <|
 .ret false)) fun j3 =>
 .ret j3)
 (.p 4 <|
 .bnd (i_RunAsk r2.1 ((⟨1, r1.2.key, (⟨#[]⟩ : ByteArray), (⟨(⟨#[]⟩ : ByteArray), (⟨#[]⟩ : ByteArray)⟩ : Range), 0, false⟩ : Ask))) fun r5 er5 =>
 .s (.lend (k_i_RunAsk r2.1 ((⟨1, r1.2.key, (⟨#[]⟩ : ByteArray), (⟨(⟨#[]⟩ : ByteArray), (⟨#[]⟩ : ByteArray)⟩ : Range), 0, false⟩ : Ask)) r5 er5) Try.call13 (clean_cons (clean_map cl_Pair _) (clean_cons (clean_map cl_Pair _) (clean_nil)))) <|
 .p 10 <|
 .ite ((r1.2.kind == 3))
 (.jn false (ι := Bool) (fun j => ms 102 [(2, bV j)] [])
 (.p 2 <|
 .cut 78 (r5.2.2)
 (.p 5 <|
 .ret (((((((r5.2.1).map ePair).length : Nat) : Int)) == 0)))
 (.p 5 <|
 .ret false)) fun j4 =>
 .ret j4)
 (.jn false (ι := Bool) (fun j => ms 102 [(2, bV j)] [])
 (.cs (r5.2.2)
 (fun h10 => .cs (((((((r5.2.1).map ePair).length : Nat) : Int)) == 1))
 (fun h11 => .bnd (getI r5.2.1 0) fun x1 ex1 =>
 .cs ((x1.val.toList == r1.2.val.toList))
 (fun h12 => .bnd (i_DataOk r2.1) fun r6 er6 =>
 .drawn [] [(1, .kn (.pl) 84 h10), (6, .kn (.pl) 89 h11), (8, .ixo ePair ex1), (10, .ld ePair (getI_e ex1).2), (15, .kn (.pl) 98 h12), (17, .lend (k_i_DataOk r2.1 r6 er6) Try.call26 (clean_nil))] (ms 102 [(2, bV r6)] []) <|
 .ret r6)
 (fun h12 => .drawn [] [(1, .kn (.pl) 84 h10), (6, .kn (.pl) 89 h11), (8, .ixo ePair ex1), (10, .ld ePair (getI_e ex1).2), (15, .kn (.pl) 98 h12)] (ms 102 [(2, bV false)] []) <|
 .ret false))
 (fun h11 => .drawn [] [(1, .kn (.pl) 84 h10), (6, .kn (.pl) 89 h11)] (ms 102 [(2, bV false)] []) <|
 .ret false))
 (fun h10 => .drawn [] [(1, .kn (.pl) 84 h10)] (ms 102 [(2, bV false)] []) <|
 .ret false)) fun j5 =>
 .ret j5)))))
/-- laws.FnRunAsk -/
noncomputable def w_FnRunAsk (p0 : (List Int)) : Option (Bool) := (ww_FnRunAsk p0).den
theorem k_w_FnRunAsk (p0 : (List Int)) (v : Bool) (h : w_FnRunAsk p0 = some v) : CallOK Try.prog 5 [lV 1 eN_u8 p0] (bV v) [] :=
  (ww_FnRunAsk p0).call tyOK Try.func5 rfl (res := (fun v : Bool => bV v)) (row := (fun v : Bool => [])) (by kernel_rfl) h

end Go.Proofs.Ytagoajkiccgmjaa
namespace Go.Proofs.Ytagoajkiccgmjaa
open Go.Mv Go.RowKit

theorem s_UserOk_eq (k : ByteArray) : s_UserOk k = some (decide (1 ≤ k.size) && decide (k.size ≤ 8)) := by
  simp only [s_UserOk, ws_UserOk, W.D]
  by_cases h1 : 1 ≤ k.size <;> by_cases h2 : k.size ≤ 8 <;> simp [h1, h2] <;> omega
theorem i_UserOk_eq (k : ByteArray) : i_UserOk k = some (decide (1 ≤ k.size) && decide (k.size ≤ 8)) := by
  simp only [i_UserOk, wi_UserOk, i_within, wi_within, W.D]
  by_cases h1 : 1 ≤ k.size <;> by_cases h2 : k.size ≤ 8 <;> simp [h1, h2] <;> omega
theorem s_UvalOk_eq (k : ByteArray) : s_UvalOk k = some (decide (k.size ≤ 20)) := by
  simp only [s_UvalOk, ws_UvalOk, W.D]
  by_cases h2 : k.size ≤ 20 <;> simp [h2] <;> omega
theorem i_UvalOk_eq (k : ByteArray) : i_UvalOk k = some (decide (k.size ≤ 20)) := by
  simp only [i_UvalOk, wi_UvalOk, W.D]
  by_cases h2 : k.size ≤ 20 <;> simp [h2] <;> omega
noncomputable def prOk (p : Pair) : Bool := (decide (1 ≤ p.key.size) && decide (p.key.size ≤ 8)) && decide (p.val.size ≤ 20)
theorem i_userPair_eq (p : Pair) : i_userPair p = some (prOk p) := by
  simp only [i_userPair, wi_userPair, W.D, i_UserOk_eq, i_UvalOk_eq, prOk]
  cases (decide (1 ≤ p.key.size) && decide (p.key.size ≤ 8)) <;> rfl
theorem rangeOk_eq (r : Range) : ∃ b, s_RangeOk r = some b ∧ i_RangeOk r = some b := by
  refine ⟨_, by simp only [s_RangeOk, ws_RangeOk, W.D]; rfl, ?_⟩
  simp only [i_RangeOk, wi_RangeOk, W.D]
  rw [bL_total r.lo.toList r.hi.toList]
  by_cases h1 : (r.lo.size : Int) ≤ 17
  · have h2 : ¬ (r.lo.size : Int) > 17 := by omega
    by_cases h3 : (r.hi.size : Int) ≤ 17
    · have h4 : ¬ (r.hi.size : Int) > 17 := by omega
      simp [h1, h2, h3, h4]
    · have h4 : (r.hi.size : Int) > 17 := by omega
      simp [h1, h2, h3, h4]
  · have h2 : (r.lo.size : Int) > 17 := by omega
    simp [h1, h2]
noncomputable def rOk (r : Range) : Bool := (s_RangeOk r).getD false
theorem s_RangeOk_eq (r : Range) : s_RangeOk r = some (rOk r) := by obtain ⟨b, h, _⟩ := rangeOk_eq r; rw [rOk, h]; rfl
theorem i_RangeOk_eq (r : Range) : i_RangeOk r = some (rOk r) := by obtain ⟨b, h, h2⟩ := rangeOk_eq r; rw [rOk, h, h2]; rfl
noncomputable def reOk (r : Range) : Bool := (s_ReachOk r).getD false
theorem s_ReachOk_eq (r : Range) : s_ReachOk r = some (reOk r) := by
  have : ∃ b, s_ReachOk r = some b := ⟨_, by simp only [s_ReachOk, ws_ReachOk, W.D, s_RangeOk_eq]; rfl⟩
  obtain ⟨b, h⟩ := this; rw [reOk, h]; rfl
theorem reOk_r {r : Range} (h : reOk r = true) : rOk r = true := by
  have h2 := s_ReachOk_eq r
  rw [h] at h2
  simp only [s_ReachOk, ws_ReachOk, W.D, s_RangeOk_eq] at h2
  cases h3 : rOk r with
  | true => rfl
  | false => rw [h3] at h2; simp at h2
theorem i_ReachOk_eq (r : Range) : i_ReachOk r = some (reOk r) := by
  rw [← s_ReachOk_eq]
  simp only [s_ReachOk, ws_ReachOk, i_ReachOk, wi_ReachOk, W.D, s_RangeOk_eq, i_RangeOk_eq]
noncomputable def aOk (a : Ask) : Bool := (s_AskOk a).getD false
theorem s_AskOk_eq (a : Ask) : s_AskOk a = some (aOk a) := by
  have : ∃ b, s_AskOk a = some b := ⟨_, by simp only [s_AskOk, ws_AskOk, W.D, s_UserOk_eq, s_UvalOk_eq, s_ReachOk_eq]; rfl⟩
  obtain ⟨b, h⟩ := this; rw [aOk, h]; rfl
theorem i_AskOk_eq (a : Ask) : i_AskOk a = some (aOk a) := by
  rw [← s_AskOk_eq]
  simp only [s_AskOk, ws_AskOk, i_AskOk, wi_AskOk, W.D, s_UserOk_eq, s_UvalOk_eq, s_ReachOk_eq, i_UserOk_eq, i_UvalOk_eq, i_ReachOk_eq, i_within, wi_within]
  have hv : (a.val.toList == (⟨#[]⟩ : ByteArray).toList) = true → decide (a.val.size ≤ 20) = true := fun h => by
    rw [beq_iff_eq] at h
    rw [ba_ext h]
    rfl
  simp only [beq_self_eq_true, Bool.true_and]
  generalize (a.val.toList == (⟨#[]⟩ : ByteArray).toList) = V at *
  generalize (a.key.toList == (⟨#[]⟩ : ByteArray).toList) = K at *
  generalize (a.range.lo.toList == (⟨#[]⟩ : ByteArray).toList) = X at *
  generalize (a.range.hi.toList == (⟨#[]⟩ : ByteArray).toList) = Y at *
  generalize (a.most == 0) = M at *
  generalize decide (a.val.size ≤ 20) = U at *
  generalize (decide (1 ≤ a.key.size) && decide (a.key.size ≤ 8)) = L at *
  generalize (bif decide (a.most ≥ 1) then decide (a.most ≤ 8) else false) = N at *
  generalize a.back = B at *
  by_cases h1 : a.kind = 1
  · simp only [h1]
    cases V <;> cases U <;> cases L <;> cases X <;> cases Y <;> cases M <;> cases B <;> first | rfl | (exact absurd (hv rfl) (by decide))
  by_cases h2 : a.kind = 2
  · simp only [h2]
    cases V <;> cases U <;> cases L <;> cases X <;> cases Y <;> cases M <;> cases B <;> rfl
  by_cases h3 : a.kind = 3
  · simp only [h3]
    cases V <;> cases U <;> cases L <;> cases X <;> cases Y <;> cases M <;> cases B <;> first | rfl | (exact absurd (hv rfl) (by decide))
  by_cases h4 : a.kind = 4
  · simp only [h4]
    cases V <;> cases K <;> cases N <;> cases reOk a.range <;> rfl
  have e1 : (a.kind == 1) = false := by simp [h1]
  have e2 : (a.kind == 2) = false := by simp [h2]
  have e3 : (a.kind == 3) = false := by simp [h3]
  have e4 : (a.kind == 4) = false := by simp [h4]
  have e5 : (bif decide (a.kind ≥ 1) then decide (a.kind ≤ 3) else false) = false := by
    by_cases g : a.kind ≥ 1
    · rw [decide_eq_true g, cond_true]; exact decide_eq_false (by omega)
    · rw [decide_eq_false g, cond_false]
  rw [e1, e2, e3, e4]
  by_cases g : a.kind ≥ 1
  · have : decide (a.kind ≤ 3) = false := decide_eq_false (by omega)
    rw [decide_eq_true g, this]
    simp only [cond_false, cond_true]
    cases (bif a.kind != 2 then !V else false) <;> rfl
  · rw [decide_eq_false g]
    simp only [cond_false]
    cases (bif a.kind != 2 then !V else false) <;> rfl
end Go.Proofs.Ytagoajkiccgmjaa
namespace Go.Proofs.Ytagoajkiccgmjaa
open Go.Mv Go.RowKit

/-! ### Right data -/
noncomputable def badK (p : List Pair) (k : Nat) : Bool := match p[k]? with
  | none => false
  | some x => !prOk x || (decide (0 < k) && match p[k - 1]? with
    | none => false
    | some y => !Op.bytesLess y.key.toList x.key.toList)
noncomputable def dOk (p : List Pair) : Bool := !(List.range' 0 p.length).any (badK p)
theorem s_DataOk_eq (p : List Pair) (hn : p.length < 9223372036854775807) : s_DataOk p = some (dOk p) := by
  have := loop_first p (fun k _ => if badK p k then some false else none) (fun s => (Bs_DataOk_1 p s).den) (fun o => match o with | some t => .inr t | none => .inl ()) hn (fun k y hy => by
    have hlt := (List.getElem?_eq_some_iff.1 hy).1
    simp only [Bs_DataOk_1, W.D]
    rw [decide_eq_true (by omega : (k : Int) < (p.length : Int)), cond_true, getI_at hy]
    simp only [W.D, s_UserOk_eq, s_UvalOk_eq]
    unfold badK
    rw [hy]
    simp only [prOk]
    cases (decide (1 ≤ y.key.size) && decide (y.key.size ≤ 8)) with
    | false => rfl
    | true =>
      cases decide (y.val.size ≤ 20) with
      | false => rfl
      | true =>
        cases k with
        | zero => rfl
        | succ k =>
          have h0 : decide (((k + 1 : Nat) : Int) > 0) = true := decide_eq_true (by omega)
          have h1 : k < p.length := by omega
          have hw : IntKind.wrap .i64 (((k + 1 : Nat) : Int) - 1) = (k : Int) := by rw [wrapL _ (by omega) (by omega)]; omega
          rw [h0, hw, getI_at (List.getElem?_eq_getElem h1)]
          simp only [Nat.add_sub_cancel, List.getElem?_eq_getElem h1, W.D]
          cases Op.bytesLess p[k].key.toList y.key.toList <;> rfl) (by simp only [Bs_DataOk_1, W.D]; rw [decide_eq_false (by omega), cond_false])
  simp only [s_DataOk, ws_DataOk, W.D]
  rw [this, firstL_range]
  unfold dOk
  cases (List.range' 0 p.length).any (badK p) <;> rfl
theorem i_DataOk_eq (p : List Pair) (hn : p.length < 9223372036854775807) : i_DataOk p = some (dOk p) := by
  have := loop_first p (fun k _ => if badK p k then some false else none) (fun s => (Bi_DataOk_1 p s).den) (fun o => match o with | some t => .inr t | none => .inl ()) hn (fun k y hy => by
    have hlt := (List.getElem?_eq_some_iff.1 hy).1
    simp only [Bi_DataOk_1, W.D]
    rw [decide_eq_true (by omega : (k : Int) < (p.length : Int)), cond_true, getI_at hy]
    simp only [W.D, i_userPair_eq]
    unfold badK
    rw [hy]
    dsimp only
    cases prOk y with
    | false => rfl
    | true =>
        cases k with
        | zero => rfl
        | succ k =>
          have h0 : decide (((k + 1 : Nat) : Int) > 0) = true := decide_eq_true (by omega)
          have h1 : k < p.length := by omega
          have hw : IntKind.wrap .i64 (((k + 1 : Nat) : Int) - 1) = (k : Int) := by rw [wrapL _ (by omega) (by omega)]; omega
          rw [h0, hw, getI_at (List.getElem?_eq_getElem h1)]
          simp only [Nat.add_sub_cancel, List.getElem?_eq_getElem h1, W.D]
          cases Op.bytesLess p[k].key.toList y.key.toList <;> rfl) (by simp only [Bi_DataOk_1, W.D]; rw [decide_eq_false (by omega), cond_false])
  simp only [i_DataOk, wi_DataOk, W.D]
  rw [this, firstL_range]
  unfold dOk
  cases (List.range' 0 p.length).any (badK p) <;> rfl

def Rising (p : List Pair) : Prop := ∀ (i j : Nat) (x y : Pair), i < j → p[i]? = some x → p[j]? = some y → Op.bytesLess x.key.toList y.key.toList = true
theorem dOk_iff (p : List Pair) : dOk p = true ↔ (∀ x ∈ p, prOk x = true) ∧ Rising p := by
  have h0 : dOk p = true ↔ ∀ k, k < p.length → badK p k = false := by
    simp [dOk, List.mem_range']
  rw [h0]
  constructor
  · intro h
    have hx : ∀ k x, p[k]? = some x → prOk x = true := fun k x hk => by
      have := h k (List.getElem?_eq_some_iff.1 hk).1
      unfold badK at this
      rw [hk] at this
      simp only [Bool.or_eq_false_iff, Bool.not_eq_false'] at this
      exact this.1
    have hs : ∀ k x y, p[k]? = some x → p[k + 1]? = some y → Op.bytesLess x.key.toList y.key.toList = true := fun k x y hk hk1 => by
      have := h (k + 1) (List.getElem?_eq_some_iff.1 hk1).1
      unfold badK at this
      rw [hk1] at this
      simp only [Nat.add_sub_cancel, hk, Bool.or_eq_false_iff, Nat.zero_lt_succ, decide_true, Bool.true_and, Bool.not_eq_false'] at this
      exact this.2
    refine ⟨fun x hx' => ?_, ?_⟩
    · obtain ⟨k, hk⟩ := List.mem_iff_getElem?.1 hx'
      exact hx k x hk
    · intro i j x y hij hi hj
      induction j generalizing y with
      | zero => omega
      | succ j ih =>
        by_cases he : i = j
        · subst he; exact hs i x y hi hj
        · have hjl : j < p.length := by have := (List.getElem?_eq_some_iff.1 hj).1; omega
          exact bL_trans (ih p[j] (by omega) (List.getElem?_eq_getElem hjl)) (hs j _ y (List.getElem?_eq_getElem hjl) hj)
  · intro ⟨h1, h2⟩ k hk
    unfold badK
    rw [List.getElem?_eq_getElem hk]
    simp only [h1 _ (List.getElem_mem hk), Bool.not_true, Bool.false_or, Bool.and_eq_false_iff]
    by_cases h3 : 0 < k
    · right
      rw [List.getElem?_eq_getElem (by omega : k - 1 < p.length)]
      simp only [Bool.not_eq_false']
      exact h2 (k - 1) k _ _ (by omega) (List.getElem?_eq_getElem _) (List.getElem?_eq_getElem hk)
    · left; simpa using h3

/-! ### The place of a key -/
noncomputable def at_ (p : List Pair) (k : ByteArray) : Nat := p.findIdx fun x => !Op.bytesLess x.key.toList k.toList
theorem at_le (p : List Pair) (k : ByteArray) : at_ p k ≤ p.length := List.findIdx_le_length
theorem at_lt {p : List Pair} {k : ByteArray} {i : Nat} {x : Pair} (h : i < at_ p k) (hx : p[i]? = some x) : Op.bytesLess x.key.toList k.toList = true := by
  obtain ⟨hl, rfl⟩ := List.getElem?_eq_some_iff.1 hx
  have := List.not_of_lt_findIdx h
  simpa using this
theorem at_ge {p : List Pair} (hr : Rising p) {k : ByteArray} {i : Nat} {x : Pair} (h : at_ p k ≤ i) (hx : p[i]? = some x) : Op.bytesLess x.key.toList k.toList = false := by
  have hl := (List.getElem?_eq_some_iff.1 hx).1
  have hc : at_ p k < p.length := by omega
  have h0 : Op.bytesLess p[at_ p k].key.toList k.toList = false := by
    have := List.findIdx_getElem (w := hc)
    simp only [Bool.not_eq_true'] at this
    exact this
  rcases Nat.lt_or_eq_of_le h with h | h
  · cases h1 : Op.bytesLess x.key.toList k.toList with
    | false => rfl
    | true =>
      have := bL_trans (hr _ _ _ _ h (List.getElem?_eq_getElem hc) hx) h1
      rw [h0] at this; cases this
  · subst h
    rw [List.getElem?_eq_getElem hc] at hx
    cases hx
    exact h0
noncomputable def has_ (p : List Pair) (k : ByteArray) : Bool := match p[at_ p k]? with
  | none => false
  | some x => x.key.toList == k.toList
theorem at_gt {p : List Pair} (hr : Rising p) {k : ByteArray} {i : Nat} {x : Pair} (h : at_ p k < i) (hx : p[i]? = some x) : Op.bytesLess k.toList x.key.toList = true := by
  have hl := (List.getElem?_eq_some_iff.1 hx).1
  have hc : at_ p k < p.length := by omega
  have h0 := at_ge hr (Nat.le_refl _) (List.getElem?_eq_getElem hc) (k := k)
  have h1 := hr _ _ _ _ h (List.getElem?_eq_getElem hc) hx
  rw [bL_total] at h0
  simp only [Bool.not_eq_false', Bool.or_eq_true, beq_iff_eq] at h0
  rcases h0 with h0 | h0
  · exact bL_trans h0 h1
  · rw [h0]; exact h1
/-- Behind the key's place. -/
noncomputable def to_ (p : List Pair) (k : ByteArray) : Nat := if has_ p k then at_ p k + 1 else at_ p k
noncomputable def putP (p : List Pair) (k : ByteArray) (xs : List Pair) : List Pair := p.take (at_ p k) ++ xs ++ p.drop (to_ p k)
end Go.Proofs.Ytagoajkiccgmjaa
namespace Go.Proofs.Ytagoajkiccgmjaa
open Go.Mv Go.RowKit

theorem take_succ_at {p : List Pair} {i : Nat} {y : Pair} (h : p[i]? = some y) : p.take (i + 1) = p.take i ++ [y] := by rw [List.take_add_one, h]; rfl
theorem to_le {p : List Pair} {k : ByteArray} : to_ p k ≤ p.length := by
  unfold to_ has_
  cases h : p[at_ p k]? with
  | none => simpa using at_le p k
  | some x =>
    have := (List.getElem?_eq_some_iff.1 h).1
    simp only
    split <;> omega
theorem at_to {p : List Pair} {k : ByteArray} : at_ p k ≤ to_ p k := by unfold to_; split <;> omega
theorem to_at {p : List Pair} {k : ByteArray} : to_ p k ≤ at_ p k + 1 := by unfold to_; split <;> omega

/-- What is out behind i elements. -/
noncomputable def outK (p : List Pair) (k : ByteArray) (xs : List Pair) (i : Nat) : List Pair := if i ≤ at_ p k then p.take i else p.take (at_ p k) ++ xs ++ (p.take i).drop (to_ p k)
theorem s_put_eq (p : List Pair) (e : Edit) (hn : (p.length + 2) * 32 ≤ 140737488355328) (hr : Rising p) :
    s_l10Put p e = some (putP p e.key (if e.gone then [] else [⟨e.key, e.val⟩])) := by
  obtain ⟨xs, hxs⟩ : ∃ xs : List Pair, xs = if e.gone then [] else [⟨e.key, e.val⟩] := ⟨_, rfl⟩
  have hxl : xs.length ≤ 1 := by rw [hxs]; split <;> simp
  have hol : ∀ i, i ≤ p.length → (outK p e.key xs i).length ≤ i + (if i ≤ at_ p e.key then 0 else 1) := fun i hi => by
    unfold outK
    have := at_to (p := p) (k := e.key)
    split
    · simp; omega
    · simp only [List.length_append, List.length_take, List.length_drop]; omega
  have hchk : ∀ (l : List Pair) (z : Pair), l.length ≤ p.length + 1 → (l.length + [z].length) * 32 ≤ 140737488355328 := fun l z h => by simp only [List.length_singleton]; omega
  have hrun := loop_run' (f := fun s => (Bs_l10Put_1 p e s).den) (fun i => ⟨outK p e.key xs i, e.gone || decide (at_ p e.key < i), (i : Int)⟩) p.length (s0 := ⟨[], e.gone, 0⟩) (r := ⟨outK p e.key xs p.length, e.gone || decide (at_ p e.key < p.length)⟩)
    (by simp [outK]) (fun i hi => by
      have hy := List.getElem?_eq_getElem hi
      have hl := hol i (by omega)
      simp only [Bs_l10Put_1, W.D]
      rw [decide_eq_true (by omega : (i : Int) < (p.length : Int)), cond_true, getI_at hy]
      simp only [W.D]
      rw [wrapL _ (by omega) (by omega), show ((i : Int) + 1) = ((i + 1 : Nat) : Int) by omega]
      generalize hyy : p[i] = y at *
      rcases Nat.lt_trichotomy i (at_ p e.key) with h | h | h
      · have h1 := at_lt h hy
        have h2 : (Op.bytesLess e.key.toList y.key.toList || e.key.toList == y.key.toList) = false := by
          have := bL_total y.key.toList e.key.toList
          rw [h1] at this
          simpa using this.symm
        have h3 := bL_ne h1
        have ho : outK p e.key xs (i + 1) = outK p e.key xs i ++ [y] := by
          unfold outK
          rw [if_pos (by omega), if_pos (by omega), take_succ_at hy]
        rw [if_pos (by omega)] at hl
        rw [h2, h3, ho, decide_eq_false (by omega : ¬ at_ p e.key < i), decide_eq_false (by omega : ¬ at_ p e.key < i + 1)]
        have hc := hchk (outK p e.key xs i) y (by omega)
        cases e.gone <;> simp only [Bool.or_false, Bool.not_false, Bool.not_true, cond_true, cond_false, W.D, if_pos hc]
      · have h1 := at_ge hr (by omega) hy (k := e.key)
        have h2 : (Op.bytesLess e.key.toList y.key.toList || e.key.toList == y.key.toList) = true := by
          have := bL_total y.key.toList e.key.toList
          rw [h1] at this
          cases hb : (Op.bytesLess e.key.toList y.key.toList || e.key.toList == y.key.toList) with
          | true => rfl
          | false => rw [hb] at this; cases this
        have ho : outK p e.key xs i = p.take i := by unfold outK; rw [if_pos (by omega)]
        have ho1 : outK p e.key xs (i + 1) = p.take i ++ xs ++ (bif !(y.key.toList == e.key.toList) then [y] else []) := by
          unfold outK to_ has_
          rw [if_neg (by omega), ← h, hy]
          cases hk : y.key.toList == e.key.toList with
          | true => simp [hk, List.drop_eq_nil_of_le]
          | false =>
            simp only [hk, Bool.false_eq_true, if_false, Bool.not_false, cond_true]
            rw [take_succ_at hy, List.drop_append_of_le_length (by simp; omega), List.drop_take, Nat.sub_self]
            simp
        rw [h2, ho, ho1, decide_eq_false (by omega : ¬ at_ p e.key < i), decide_eq_true (by omega : at_ p e.key < i + 1)]
        have hc := hchk (p.take i) (⟨e.key, e.val⟩ : Pair) (by simp; omega)
        have hc2 := hchk (p.take i ++ [(⟨e.key, e.val⟩ : Pair)]) y (by simp; omega)
        have hc3 := hchk (p.take i) y (by simp; omega)
        rw [hxs]
        cases e.gone <;> simp only [Bool.or_false, Bool.not_false, Bool.not_true, cond_true, cond_false, W.D, if_pos hc, Bool.false_eq_true, if_false, if_true, List.append_nil, Bool.or_true] <;>
          cases y.key.toList == e.key.toList <;> simp only [Bool.not_false, Bool.not_true, cond_true, cond_false, if_pos hc2, if_pos hc3, W.D, List.append_nil]
      · have h1 := at_gt hr h hy
        have h3 : (y.key.toList == e.key.toList) = false := by
          have := bL_ne h1
          cases h4 : y.key.toList == e.key.toList with
          | false => rfl
          | true => rw [beq_iff_eq] at h4; rw [h4] at this; simp at this
        have ho : outK p e.key xs (i + 1) = outK p e.key xs i ++ [y] := by
          unfold outK
          have := to_at (p := p) (k := e.key)
          rw [if_neg (by omega), if_neg (by omega), take_succ_at hy, List.drop_append_of_le_length (by simp; omega), ← List.append_assoc]
        rw [if_neg (by omega)] at hl
        have hc := hchk (outK p e.key xs i) y (by omega)
        rw [h3, ho, decide_eq_true h, decide_eq_true (by omega : at_ p e.key < i + 1)]
        simp only [Bool.or_true, Bool.not_true, Bool.not_false, cond_true, cond_false, W.D, if_pos hc]) (by
      simp only [Bs_l10Put_1, W.D]
      rw [decide_eq_false (by omega), cond_false])
  simp only [s_l10Put, ws_l10Put, W.D]
  rw [hrun]
  simp only [W.D]
  have hle := at_le p e.key
  have ht := to_le (p := p) (k := e.key)
  have ha := at_to (p := p) (k := e.key)
  rcases Nat.lt_or_eq_of_le hle with h | h
  · rw [decide_eq_true h]
    simp only [Bool.or_true, Bool.not_true, cond_false, W.D]
    unfold outK putP
    rw [if_neg (by omega), List.take_length, hxs]
    simp only [W.D]
  · rw [decide_eq_false (by omega)]
    have ho : outK p e.key xs p.length = p := by unfold outK; rw [if_pos (by omega), List.take_length]
    have hc := hchk p (⟨e.key, e.val⟩ : Pair) (by omega)
    rw [ho]
    unfold putP
    rw [h, List.take_length, List.drop_eq_nil_of_le (by omega)]
    cases e.gone <;> simp only [Bool.or_false, Bool.not_false, Bool.not_true, cond_true, cond_false, W.D, if_pos hc, List.append_nil]
end Go.Proofs.Ytagoajkiccgmjaa
namespace Go.Proofs.Ytagoajkiccgmjaa
open Go.Mv Go.RowKit

theorem cmp_eq (x : Pair) (k : ByteArray) : i_comparePair x k = some (bif Op.bytesLess x.key.toList k.toList then -1 else bif x.key.toList == k.toList then 0 else 1) := by
  simp only [i_comparePair, wi_comparePair, W.D]
  cases Op.bytesLess x.key.toList k.toList with
  | true => rfl
  | false => cases x.key.toList == k.toList <;> rfl
theorem search_eq (p : List Pair) (k : ByteArray) (hr : Rising p) (hn : p.length < 4000000000000000000) :
    sl_BinarySearchFunc_Pair_string_i_comparePair p k = some ((at_ p k : Int), has_ p k) := by
  have hle := at_le p k
  have hrun := loopT_val (f := fun s => (Bsl_BinarySearchFunc_Pair_string_i_comparePair_1 p k s).den) (fun _ => some ((at_ p k : Nat) : Int)) (fun s => ∃ i j : Nat, s = ⟨i, j⟩ ∧ i ≤ at_ p k ∧ at_ p k ≤ j ∧ j ≤ p.length) (fun s => (s.v10 - s.v9).toNat) (fun s ⟨i, j, hs, h1, h2, h3⟩ => by
    subst hs
    by_cases hij : i < j
    · right
      have hm : IntKind.wrap .i64 (Int.fdiv (IntKind.wrap .u64 (IntKind.wrap .i64 ((i : Int) + (j : Int)))) 2) = (((i + j) / 2 : Nat) : Int) := by
        rw [wrapL ((i : Int) + j) (by omega) (by omega), wrapU _ (by omega) (by omega)]
        have : Int.fdiv ((i : Int) + (j : Int)) 2 = (((i + j) / 2 : Nat) : Int) := by
          rw [Int.fdiv_eq_ediv_of_nonneg _ (by decide)]
          omega
        rw [this, wrapL _ (by omega) (by omega)]
      have hml : (i + j) / 2 < p.length := by omega
      have hx := List.getElem?_eq_getElem hml
      simp only [Bsl_BinarySearchFunc_Pair_string_i_comparePair_1, W.D]
      rw [decide_eq_true (by omega : (i : Int) < (j : Int)), cond_true, hm, getI_at hx]
      simp only [W.D, cmp_eq]
      generalize p[(i + j) / 2] = x at hx
      cases hl : Op.bytesLess x.key.toList k.toList with
      | true =>
        have : (i + j) / 2 < at_ p k := by
          rcases Nat.lt_or_ge ((i + j) / 2) (at_ p k) with h | h
          · exact h
          · rw [at_ge hr h hx] at hl; cases hl
        refine ⟨⟨(((i + j) / 2 + 1 : Nat) : Int), (j : Int)⟩, ?_, ⟨_, _, rfl, by omega, h2, h3⟩, by simp; omega, trivial⟩
        simp only [cond_true]
        rw [decide_eq_true (by decide : (-1 : Int) < 0), cond_true, wrapL _ (by omega) (by omega)]
        rfl
      | false =>
        have : at_ p k ≤ (i + j) / 2 := by
          rcases Nat.lt_or_ge ((i + j) / 2) (at_ p k) with h | h
          · rw [at_lt h hx] at hl; cases hl
          · exact h
        refine ⟨⟨(i : Int), (((i + j) / 2 : Nat) : Int)⟩, ?_, ⟨_, _, rfl, h1, by omega, by omega⟩, by simp; omega, trivial⟩
        simp only [cond_false]
        rw [decide_eq_false (by cases x.key.toList == k.toList <;> decide)]
        rfl
    · left
      refine ⟨(i : Int), ?_, by rw [show i = at_ p k by omega]⟩
      simp only [Bsl_BinarySearchFunc_Pair_string_i_comparePair_1, W.D]
      rw [decide_eq_false (by omega), cond_false]) ⟨0, (p.length : Int)⟩ ⟨0, p.length, rfl, by omega, hle, Nat.le_refl _⟩
  simp only [sl_BinarySearchFunc_Pair_string_i_comparePair, wsl_BinarySearchFunc_Pair_string_i_comparePair, W.D]
  rw [hrun]
  simp only [W.D]
  rcases Nat.lt_or_eq_of_le hle with h | h
  · have hx := List.getElem?_eq_getElem h
    rw [decide_eq_true (by omega : ((at_ p k : Nat) : Int) < (p.length : Int)), cond_true, getI_at hx]
    simp only [W.D, cmp_eq]
    unfold has_
    rw [hx]
    have := at_ge hr (Nat.le_refl _) hx
    simp only [this, cond_false]
    cases p[at_ p k].key.toList == k.toList <;> rfl
  · rw [decide_eq_false (by omega)]
    unfold has_
    rw [List.getElem?_eq_none (by omega)]
    rfl
theorem i_put_eq (p : List Pair) (x : Pair) (hr : Rising p) (hn : (p.length + 2) * 32 ≤ 140737488355328) : i_put p x = some (putP p x.key [x]) := by
  simp only [i_put, wi_put, W.D, search_eq p x.key hr (by omega)]
  have hle := at_le p x.key
  unfold putP to_
  cases hh : has_ p x.key with
  | true =>
    have hlt : at_ p x.key < p.length := by
      rcases Nat.lt_or_eq_of_le hle with h | h
      · exact h
      · unfold has_ at hh; rw [List.getElem?_eq_none (by omega)] at hh; cases hh
    rw [getI_at (List.getElem?_eq_getElem hlt)]
    simp only [W.D, cond_true, if_true, Int.toNat_natCast]
    rw [List.set_eq_take_append_cons_drop, if_pos hlt]
    simp
  | false =>
    unfold sl_Insert_Pair
    rw [chk_i (by refine ⟨?_, ?_, ?_, ?_⟩ <;> simp <;> omega)]
    simp only [W.D, cond_false, Bool.false_eq_true, if_false, Int.toNat_natCast]

/-! ### A key taken out -/
theorem idx_eq (p : List Pair) (k : ByteArray) (hr : Rising p) (hn : p.length < 4000000000000000000) : sl_IndexFunc_Pair_i_take_c1 p k = some (if has_ p k then (at_ p k : Int) else -1) := by
  have hle := at_le p k
  have hne : ∀ i x, p[i]? = some x → (x.key.toList == k.toList) = true → i = at_ p k ∧ has_ p k = true := fun i x hx he => by
    rw [beq_iff_eq] at he
    rcases Nat.lt_trichotomy i (at_ p k) with h | h | h
    · have := at_lt h hx; rw [he, bL_irr] at this; cases this
    · subst h; refine ⟨rfl, ?_⟩; unfold has_; rw [hx]; simpa using he
    · have := at_gt hr h hx; rw [he, bL_irr] at this; cases this
  have step : ∀ i, i < p.length → (has_ p k = true → i ≠ at_ p k) → (Bsl_IndexFunc_Pair_i_take_c1_1 p k (i : Int)).den = some (.inl ((i + 1 : Nat) : Int)) := fun i hi hni => by
    have hx := List.getElem?_eq_getElem hi
    simp only [Bsl_IndexFunc_Pair_i_take_c1_1, W.D]
    rw [decide_eq_true (by omega : (i : Int) < (p.length : Int)), cond_true, getI_at hx]
    simp only [W.D, i_take_c1, wi_take_c1]
    cases he : p[i].key.toList == k.toList with
    | true => have := hne i _ hx he; exact absurd this.1 (hni this.2)
    | false => rw [cond_false, wrapL _ (by omega) (by omega)]; rfl
  cases hh : has_ p k with
  | true =>
    have hlt : at_ p k < p.length := by
      rcases Nat.lt_or_eq_of_le hle with h | h
      · exact h
      · unfold has_ at hh; rw [List.getElem?_eq_none (by omega)] at hh; cases hh
    have hx := List.getElem?_eq_getElem hlt
    have he : (p[at_ p k].key.toList == k.toList) = true := by unfold has_ at hh; rw [hx] at hh; exact hh
    have := loop_run' (f := fun s => (Bsl_IndexFunc_Pair_i_take_c1_1 p k s).den) (fun i => (i : Int)) (at_ p k) (s0 := 0) (r := .inr (at_ p k : Int)) rfl (fun i hi => step i (by omega) (fun _ => by omega)) (by
      simp only [Bsl_IndexFunc_Pair_i_take_c1_1, W.D]
      rw [decide_eq_true (by omega : ((at_ p k : Nat) : Int) < (p.length : Int)), cond_true, getI_at hx]
      simp only [W.D, i_take_c1, wi_take_c1, he]
      rfl)
    simp only [sl_IndexFunc_Pair_i_take_c1, wsl_IndexFunc_Pair_i_take_c1, W.D]
    rw [this]
    rfl
  | false =>
    have := loop_run' (f := fun s => (Bsl_IndexFunc_Pair_i_take_c1_1 p k s).den) (fun i => (i : Int)) p.length (s0 := 0) (r := .inl ()) rfl (fun i hi => step i hi (fun h => by rw [hh] at h; cases h)) (by
      simp only [Bsl_IndexFunc_Pair_i_take_c1_1, W.D]
      rw [decide_eq_false (by omega), cond_false])
    simp only [sl_IndexFunc_Pair_i_take_c1, wsl_IndexFunc_Pair_i_take_c1, W.D]
    rw [this]
    rfl
theorem i_take_eq (p : List Pair) (k : ByteArray) (hr : Rising p) (hn : p.length < 4000000000000000000) : i_take p k = some (putP p k []) := by
  have hle := at_le p k
  simp only [i_take, wi_take, W.D, sl_DeleteFunc_Pair_i_take_c1, wsl_DeleteFunc_Pair_i_take_c1, idx_eq p k hr hn]
  unfold putP to_
  cases hh : has_ p k with
  | false => simp
  | true =>
    have hlt : at_ p k < p.length := by
      rcases Nat.lt_or_eq_of_le hle with h | h
      · exact h
      · unfold has_ at hh; rw [List.getElem?_eq_none (by omega)] at hh; cases hh
    have hne : ((at_ p k : Int) == -1) = false := beq_eq_false_iff_ne.2 (by omega)
    simp only [cond_true]
    rw [wrapL ((at_ p k : Nat) + 1 : Int) (by omega) (by omega), hne]
    simp only [cond_false, if_true]
    generalize hc : at_ p k = c at *
    have hrun := loop_run' (f := fun s => (Bsl_DeleteFunc_Pair_i_take_c1_1 k s).den) (fun i => ⟨((c + i : Nat) : Int), ((c + 1 + i : Nat) : Int), p.take c ++ (p.drop (c + 1)).take i ++ p.drop (c + i)⟩) (p.length - (c + 1)) (s0 := ⟨(c : Int), (c : Int) + 1, p⟩)
      (r := ⟨((p.length - 1 : Nat) : Int), p.take c ++ p.drop (c + 1) ++ p.drop (p.length - 1)⟩) (by simp) (fun i hi => by
        have hl : (p.take c ++ (p.drop (c + 1)).take i ++ p.drop (c + i)).length = p.length := by simp; omega
        have hx : (p.take c ++ (p.drop (c + 1)).take i ++ p.drop (c + i))[c + 1 + i]? = some p[c + 1 + i] := by
          rw [List.getElem?_append_right (by simp; omega)]
          simp only [List.length_append, List.length_take, List.length_drop, List.getElem?_drop]
          rw [show c + i + (c + 1 + i - (min c p.length + min i (p.length - (c + 1)))) = c + 1 + i by omega]
          exact List.getElem?_eq_getElem _
        have hx2 : ∃ z, (p.take c ++ (p.drop (c + 1)).take i ++ p.drop (c + i))[c + i]? = some z := ⟨_, List.getElem?_eq_getElem (by rw [hl]; omega)⟩
        obtain ⟨z, hx2⟩ := hx2
        have hkn : (p[c + 1 + i].key.toList == k.toList) = false := by
          have := at_gt hr (by omega) (List.getElem?_eq_getElem (by omega : c + 1 + i < p.length)) (k := k)
          have h2 := bL_ne this
          cases h4 : p[c + 1 + i].key.toList == k.toList with
          | false => rfl
          | true => rw [beq_iff_eq] at h4; rw [h4] at h2; simp at h2
        simp only [Bsl_DeleteFunc_Pair_i_take_c1_1, W.D, hl]
        rw [decide_eq_true (by omega : ((c + 1 + i : Nat) : Int) < (p.length : Int)), cond_true, getI_at hx]
        simp only [W.D, i_take_c1, wi_take_c1, hkn, Bool.not_false, cond_true]
        rw [getI_at hx2]
        simp only [W.D, Int.toNat_natCast]
        rw [wrapL _ (by omega) (by omega), wrapL _ (by omega) (by omega)]
        congr 2
        have e1 : (p.drop (c + 1)).take (i + 1) = (p.drop (c + 1)).take i ++ [p[c + 1 + i]] := by
          rw [List.take_add_one, List.getElem?_drop, List.getElem?_eq_getElem (by omega)]; rfl
        have e2 : p.drop (c + i) = p[c + i] :: p.drop (c + (i + 1)) := List.drop_eq_getElem_cons (by omega)
        rw [e1, e2, List.set_append_right _ _ (by simp; omega)]
        have e3 : c + i - (p.take c ++ (p.drop (c + 1)).take i).length = 0 := by simp; omega
        rw [e3, List.set_cons_zero]
        simp
        omega) (by
        have hl : (p.take c ++ (p.drop (c + 1)).take (p.length - (c + 1)) ++ p.drop (c + (p.length - (c + 1)))).length = p.length := by simp; omega
        simp only [Bsl_DeleteFunc_Pair_i_take_c1_1, W.D, hl]
        rw [decide_eq_false (by omega), cond_false, show c + (p.length - (c + 1)) = p.length - 1 by omega, List.take_of_length_le (l := p.drop (c + 1)) (i := p.length - (c + 1)) (by simp)])
    rw [hrun]
    have hl : (p.take c ++ p.drop (c + 1) ++ p.drop (p.length - 1)).length = p.length := by simp; omega
    simp only [W.D, hl, Int.toNat_natCast]
    rw [if_pos (by omega), if_pos (by omega), W.D.2.2.2.2.2.2.2.2.2.2.2.2.2.2.2.2.2.2.2.1]
    rw [List.take_take, Nat.min_self, List.take_left' (by simp; omega)]
    simp
end Go.Proofs.Ytagoajkiccgmjaa
namespace Go.Proofs.Ytagoajkiccgmjaa
open Go.Mv Go.RowKit

theorem bL_succ : ∀ (x k : List UInt8), Op.bytesLess x (k ++ [0]) = !(Op.bytesLess k x)
  | [], [] => rfl
  | [], _ :: _ => rfl
  | a :: x, [] => by
    have h1 : ¬ a < (0 : UInt8) := by simp [UInt8.lt_iff_toNat_lt]
    have h2 : Op.bytesLess x [] = false := by cases x <;> rfl
    simp [Op.bytesLess, h1, h2]
  | a :: x, b :: k => by
    have ih := bL_succ x k
    simp only [List.cons_append, Op.bytesLess]
    rw [ih]
    by_cases h : a = b
    · subst h
      simp
    · have h1 : (a == b) = false := by simp [h]
      have h2 : (b == a) = false := beq_eq_false_iff_ne.2 (Ne.symm h)
      rw [h1, h2]
      by_cases h3 : a < b
      · have h4 : ¬ b < a := fun h4 => absurd (UInt8.lt_trans h3 h4) (UInt8.lt_irrefl _)
        simp [h3, h4]
      · have h4 : b < a := by
          rcases UInt8.lt_or_lt_of_ne h with h5 | h5
          · exact absurd h5 h3
          · exact h5
        simp [h3, h4]
noncomputable def hasR (r : Range) (k : ByteArray) : Bool := !Op.bytesLess k.toList r.lo.toList && ((r.hi.toList == (⟨#[]⟩ : ByteArray).toList) || Op.bytesLess k.toList r.hi.toList)
theorem i_has_eq (r : Range) (k : ByteArray) : i_Range_has r k = some (hasR r k) := by
  simp only [i_Range_has, wi_Range_has, W.D, hasR]
  cases Op.bytesLess k.toList r.lo.toList <;> cases r.hi.toList == (⟨#[]⟩ : ByteArray).toList <;> rfl
theorem s_has_eq (r : Range) (k : ByteArray) (hr : rOk r = true) (h1 : 1 ≤ k.size) (h2 : k.size ≤ 8) : s_RangeHas r k = some (hasR r k) := by
  have hk : s_KeyOk k = some true := by
    simp only [s_KeyOk, ws_KeyOk, W.D]
    rw [decide_eq_true (by omega), decide_eq_true (by omega)]
    rfl
  simp only [s_RangeHas, ws_RangeHas, W.D, hasR, s_RangeOk_eq, hr, hk]
  rw [bL_total k.toList r.lo.toList]
  cases (Op.bytesLess r.lo.toList k.toList || r.lo.toList == k.toList) <;> cases r.hi.toList == (⟨#[]⟩ : ByteArray).toList <;> rfl
theorem point_eq (k : ByteArray) (h1 : 1 ≤ k.size) (h2 : k.size ≤ 8) : i_PointOf k = some ⟨k, k ++ ⟨#[0]⟩⟩ := by
  have hk : i_KeyOk k = some true := by
    simp only [i_KeyOk, wi_KeyOk, i_within, wi_within, W.D]
    rw [decide_eq_true (by omega), decide_eq_true (by omega)]
    rfl
  simp only [i_PointOf, wi_PointOf, W.D, hk]
  rw [if_pos (by show k.size + 1 ≤ _; omega)]
  rfl
theorem point_has (k x : ByteArray) : hasR ⟨k, k ++ ⟨#[0]⟩⟩ x = (x.toList == k.toList) := by
  have e : (k ++ (⟨#[0]⟩ : ByteArray)).toList = k.toList ++ [0] := by
    rw [ByteArray.toList_eq, ByteArray.toList_eq, ByteArray.data_append, Array.toList_append]
  unfold hasR
  dsimp only
  rw [e, bL_succ]
  have h3 : (k.toList ++ [0] == (⟨#[]⟩ : ByteArray).toList) = false := by
    rw [ByteArray.toList_eq (⟨#[]⟩ : ByteArray)]
    cases k.toList <;> rfl
  rw [h3, bL_total x.toList k.toList]
  by_cases h : x.toList = k.toList
  · rw [h, bL_irr]; simp
  · have : (k.toList == x.toList) = false := beq_eq_false_iff_ne.2 (Ne.symm h)
    have h4 : (x.toList == k.toList) = false := beq_eq_false_iff_ne.2 h
    rw [this, h4]
    cases Op.bytesLess k.toList x.toList <;> rfl

/-- What is told behind i elements. -/
noncomputable def scK (c : List Pair → Pair → Bool) (p : List Pair) (back : Bool) : Nat → List Pair
  | 0 => []
  | i + 1 => match p[bif back then p.length - 1 - i else i]? with
    | some x => bif c (scK c p back i) x then scK c p back i ++ [x] else scK c p back i
    | none => scK c p back i
theorem scK_len (c : List Pair → Pair → Bool) (p : List Pair) (back : Bool) : ∀ i, (scK c p back i).length ≤ i
  | 0 => by simp [scK]
  | i + 1 => by
    have := scK_len c p back i
    unfold scK
    split
    · rename_i x _
      cases c (scK c p back i) x <;> simp <;> omega
    · omega
theorem scK_congr {c c' : List Pair → Pair → Bool} {p : List Pair} {back : Bool} (h : ∀ o x, x ∈ p → c o x = c' o x) : ∀ i, scK c p back i = scK c' p back i
  | 0 => rfl
  | i + 1 => by
    unfold scK
    rw [scK_congr h i]
    split
    · rename_i x hx
      rw [h _ _ (List.mem_of_getElem? hx)]
    · rfl
theorem i_scanned_eq (p : List Pair) (r : Range) (m : Int) (back : Bool) (hn : (p.length + 2) * 32 ≤ 140737488355328) :
    i_scanned p r m back = some (scK (fun o x => hasR r x.key && decide ((o.length : Int) < m)) p back p.length) := by
  have hrun := loop_run' (f := fun s => (Bi_scanned_1 p r m back s).den) (fun i => ⟨scK (fun o x => hasR r x.key && decide ((o.length : Int) < m)) p back i, (i : Int)⟩) p.length (s0 := ⟨[], 0⟩) (r := scK (fun o x => hasR r x.key && decide ((o.length : Int) < m)) p back p.length) rfl (fun i hi => by
      have hl := scK_len (fun o x => hasR r x.key && decide ((o.length : Int) < m)) p back i
      have hx := List.getElem?_eq_getElem hi
      have hx2 := List.getElem?_eq_getElem (by omega : p.length - 1 - i < p.length)
      have hw : IntKind.wrap .i64 (IntKind.wrap .i64 ((p.length : Int) - 1) - (i : Int)) = ((p.length - 1 - i : Nat) : Int) := by rw [wrapL ((p.length : Int) - 1) (by omega) (by omega), wrapL _ (by omega) (by omega)]; omega
      simp only [Bi_scanned_1, W.D, i_has_eq]
      rw [decide_eq_true (by omega : (i : Int) < (p.length : Int)), cond_true, getI_at hx, hw, getI_at hx2, wrapL _ (by omega) (by omega)]
      simp only [W.D]
      cases back with
      | true =>
        simp only [cond_true, scK, hx2, if_true, Bool.false_eq_true]
        generalize scK (fun o x => hasR r x.key && decide ((o.length : Int) < m)) p true i = o at hl ⊢
        generalize p[p.length - 1 - i] = y
        have hc : (o.length + [(⟨y.key, y.val⟩ : Pair)].length) * 32 ≤ 140737488355328 := by simp only [List.length_singleton]; omega
        cases hasR r y.key <;> cases decide ((o.length : Int) < m) <;> simp only [Bool.false_and, Bool.true_and, Bool.and_true, Bool.and_false, Bool.false_eq_true, if_true, if_false, cond_true, cond_false, W.D, if_pos hc] <;> rfl
      | false =>
        simp only [cond_false, scK, hx, if_true, Bool.false_eq_true, if_false]
        generalize scK (fun o x => hasR r x.key && decide ((o.length : Int) < m)) p false i = o at hl ⊢
        generalize p[i] = y
        have hc : (o.length + [(⟨y.key, y.val⟩ : Pair)].length) * 32 ≤ 140737488355328 := by simp only [List.length_singleton]; omega
        cases hasR r y.key <;> cases decide ((o.length : Int) < m) <;> simp only [Bool.false_and, Bool.true_and, Bool.and_true, Bool.and_false, Bool.false_eq_true, if_true, if_false, cond_true, cond_false, W.D, if_pos hc] <;> rfl) (by
      simp only [Bi_scanned_1, W.D]
      rw [decide_eq_false (by omega), cond_false])
  simp only [i_scanned, wi_scanned, W.D]
  rw [hrun]
  rfl
theorem s_told_eq (p : List Pair) (a : Ask) (hn : (p.length + 2) * 32 ≤ 140737488355328) (hh : ∀ x ∈ p, a.kind = 4 → s_RangeHas a.range x.key = some (hasR a.range x.key)) (hk : a.kind = 1 ∨ a.kind = 4) :
    loopT (fun s => (Bs_RunAsk_1 p a s).den) ⟨[], 0⟩ = some (scK (fun o x => bif a.kind == 1 then x.key.toList == a.key.toList else hasR a.range x.key && decide ((o.length : Int) < a.most)) p a.back p.length) := by
  refine loop_run' (f := fun s => (Bs_RunAsk_1 p a s).den) (fun i => ⟨scK (fun o x => bif a.kind == 1 then x.key.toList == a.key.toList else hasR a.range x.key && decide ((o.length : Int) < a.most)) p a.back i, (i : Int)⟩) p.length rfl (fun i hi => ?_) ?_
  · have hl := scK_len (fun o x => bif a.kind == 1 then x.key.toList == a.key.toList else hasR a.range x.key && decide ((o.length : Int) < a.most)) p a.back i
    have hx := List.getElem?_eq_getElem hi
    have hx2 := List.getElem?_eq_getElem (by omega : p.length - 1 - i < p.length)
    have hw : IntKind.wrap .i64 (IntKind.wrap .i64 ((p.length : Int) - 1) - (i : Int)) = ((p.length - 1 - i : Nat) : Int) := by rw [wrapL ((p.length : Int) - 1) (by omega) (by omega), wrapL _ (by omega) (by omega)]; omega
    simp only [Bs_RunAsk_1, W.D]
    rw [decide_eq_true (by omega : (i : Int) < (p.length : Int)), cond_true, getI_at hx, hw, getI_at hx2, wrapL _ (by omega) (by omega)]
    simp only [W.D]
    cases hb : a.back with
    | true =>
      rw [hb] at hl
      simp only [cond_true, scK, hx2, if_true, Bool.false_eq_true]
      generalize scK (fun o x => bif a.kind == 1 then x.key.toList == a.key.toList else hasR a.range x.key && decide ((o.length : Int) < a.most)) p true i = o at hl ⊢
      have hm : p[p.length - 1 - i] ∈ p := List.getElem_mem _
      generalize p[p.length - 1 - i] = y at hm
      have hc : (o.length + [(⟨y.key, y.val⟩ : Pair)].length) * 32 ≤ 140737488355328 := by simp only [List.length_singleton]; omega
      rcases hk with h | h
      · simp only [h, show ((1 : Int) == 1) = true from rfl, show ((1 : Int) == 4) = false from rfl]
        cases y.key.toList == a.key.toList <;> simp only [Bool.false_and, Bool.true_and, Bool.and_true, Bool.and_false, Bool.false_eq_true, if_true, if_false, cond_true, cond_false, W.D, if_pos hc] <;> rfl
      · rw [hh _ hm h]
        simp only [h, show ((4 : Int) == 1) = false from rfl, show ((4 : Int) == 4) = true from rfl, W.D]
        cases hasR a.range y.key <;> cases decide ((o.length : Int) < a.most) <;> simp only [Bool.false_and, Bool.true_and, Bool.and_true, Bool.and_false, Bool.false_eq_true, if_true, if_false, cond_true, cond_false, W.D, if_pos hc] <;> rfl
    | false =>
      rw [hb] at hl
      simp only [cond_false, scK, hx, if_true, Bool.false_eq_true, if_false]
      generalize scK (fun o x => bif a.kind == 1 then x.key.toList == a.key.toList else hasR a.range x.key && decide ((o.length : Int) < a.most)) p false i = o at hl ⊢
      have hm : p[i] ∈ p := List.getElem_mem _
      generalize p[i] = y at hm
      have hc : (o.length + [(⟨y.key, y.val⟩ : Pair)].length) * 32 ≤ 140737488355328 := by simp only [List.length_singleton]; omega
      rcases hk with h | h
      · simp only [h, show ((1 : Int) == 1) = true from rfl, show ((1 : Int) == 4) = false from rfl]
        cases y.key.toList == a.key.toList <;> simp only [Bool.false_and, Bool.true_and, Bool.and_true, Bool.and_false, Bool.false_eq_true, if_true, if_false, cond_true, cond_false, W.D, if_pos hc] <;> rfl
      · rw [hh _ hm h]
        simp only [h, show ((4 : Int) == 1) = false from rfl, show ((4 : Int) == 4) = true from rfl, W.D]
        cases hasR a.range y.key <;> cases decide ((o.length : Int) < a.most) <;> simp only [Bool.false_and, Bool.true_and, Bool.and_true, Bool.and_false, Bool.false_eq_true, if_true, if_false, cond_true, cond_false, W.D, if_pos hc] <;> rfl
  · simp only [Bs_RunAsk_1, W.D]
    rw [decide_eq_false (by omega), cond_false]
/-- Of rising keys one is told. -/
noncomputable def oneP (p : List Pair) (k : ByteArray) : List Pair := bif has_ p k then (p.drop (at_ p k)).take 1 else []
theorem scK_one (p : List Pair) (k : ByteArray) (hr : Rising p) (c : List Pair → Pair → Bool) (hc : ∀ o x, c o x = true → (x.key.toList == k.toList) = true) (hc0 : ∀ x, (x.key.toList == k.toList) = true → c [] x = true) :
    ∀ i, i ≤ p.length → scK c p false i = if at_ p k < i then oneP p k else []
  | 0, _ => by simp [scK]
  | i + 1, hi => by
    have hx := List.getElem?_eq_getElem (by omega : i < p.length)
    unfold scK
    rw [scK_one p k hr c hc hc0 i (by omega)]
    simp only [cond_false, hx]
    have hne : ∀ o, i ≠ at_ p k → c o p[i] = false := fun o hi' => by
      cases h : c o p[i] with
      | false => rfl
      | true =>
        have := hc _ _ h
        rw [beq_iff_eq] at this
        rcases Nat.lt_trichotomy i (at_ p k) with h | h | h
        · have := at_lt h hx; rw [‹p[i].key.toList = k.toList›, bL_irr] at this; cases this
        · exact absurd h hi'
        · have := at_gt hr h hx; rw [‹p[i].key.toList = k.toList›, bL_irr] at this; cases this
    rcases Nat.lt_trichotomy i (at_ p k) with h | h | h
    · rw [if_neg (show ¬ at_ p k < i by omega), if_neg (show ¬ at_ p k < i + 1 by omega), hne _ (by omega)]; rfl
    · rw [if_neg (show ¬ at_ p k < i by omega), if_pos (show at_ p k < i + 1 by omega)]
      unfold oneP has_
      rw [← h, hx]
      dsimp only
      have hd : p.drop i = p[i] :: p.drop (i + 1) := List.drop_eq_getElem_cons (by omega)
      rw [hd]
      have h0 := hc0 p[i]
      have h1 := hc [] p[i]
      generalize p[i] = y at h0 h1 ⊢
      cases he : y.key.toList == k.toList with
      | true =>
        rw [h0 he]
        rfl
      | false =>
        have : c [] y = false := by
          cases h : c [] y with
          | false => rfl
          | true => rw [h1 h] at he; cases he
        rw [this]
        rfl
    · rw [if_pos (show at_ p k < i by omega), if_pos (show at_ p k < i + 1 by omega), hne _ (by omega)]; rfl
end Go.Proofs.Ytagoajkiccgmjaa
namespace Go.Proofs.Ytagoajkiccgmjaa
open Go.Mv Go.RowKit

theorem aOk_f {a : Ask} (h : aOk a = true) : (a.kind = 1 ∨ a.kind = 2 ∨ a.kind = 3 ∨ a.kind = 4) ∧ (a.kind ≠ 4 → 1 ≤ a.key.size ∧ a.key.size ≤ 8 ∧ a.back = false) ∧ (a.kind = 4 → rOk a.range = true ∧ a.most ≤ 8) ∧ (a.kind = 2 → a.val.size ≤ 20) := by
  have h2 := i_AskOk_eq a
  rw [h] at h2
  simp only [i_AskOk, wi_AskOk, W.D, i_UserOk_eq, i_UvalOk_eq, i_ReachOk_eq, i_within, wi_within] at h2
  by_cases h1 : a.kind = 1
  · simp [h1] at h2
    refine ⟨.inl h1, fun _ => ⟨by omega, by omega, ?_⟩, fun h => by omega, fun h => by omega⟩
    simp [h2]
  by_cases h3 : a.kind = 3
  · simp [h3] at h2
    refine ⟨.inr (.inr (.inl h3)), fun _ => ⟨by omega, by omega, ?_⟩, fun h => by omega, fun h => by omega⟩
    simp [h2]
  by_cases h4 : a.kind = 2
  · simp [h4] at h2
    refine ⟨.inr (.inl h4), fun _ => ⟨by omega, by omega, ?_⟩, fun h => by omega, fun h => by omega⟩
    simp [h2]
  by_cases h5 : a.kind = 4
  · simp [h5] at h2
    refine ⟨.inr (.inr (.inr h5)), fun h => absurd h5 h, fun _ => ⟨reOk_r (by simp [h2]), by omega⟩, fun h => by omega⟩
  · simp [h1, h3, h4, h5] at h2

/-! ### One ask -/
noncomputable def toldP (p : List Pair) (a : Ask) : List Pair := bif a.kind == 1 then oneP p a.key else scK (fun o x => hasR a.range x.key && decide ((o.length : Int) < a.most)) p a.back p.length
noncomputable def runP (p : List Pair) (a : Ask) : List Pair × List Pair :=
  bif a.kind == 2 then (putP p a.key [⟨a.key, a.val⟩], []) else bif a.kind == 3 then (putP p a.key [], []) else (p, toldP p a)
noncomputable def RunP (p : List Pair) (a : Ask) : List Pair × List Pair × Bool := bif dOk p && aOk a then ((runP p a).1, (runP p a).2, true) else ([], [], false)
theorem one_all (p : List Pair) (k : ByteArray) (hr : Rising p) : (if at_ p k < p.length then oneP p k else []) = oneP p k := by
  by_cases h : at_ p k < p.length
  · rw [if_pos h]
  · rw [if_neg h]
    unfold oneP has_
    rw [List.getElem?_eq_none (by omega)]
    rfl
theorem i_runAsk_eq (p : List Pair) (a : Ask) (hn : (p.length + 2) * 32 ≤ 140737488355328) (hr : Rising p) (ha : aOk a = true) : i_runAsk p a = some (runP p a) := by
  obtain ⟨hk, h1, h2, _⟩ := aOk_f ha
  have hc : i_copyPairs p = some p := by
    simp only [i_copyPairs, wi_copyPairs, W.D]
    rw [if_pos (by simp only [List.length_nil]; omega)]
  simp only [i_runAsk, wi_runAsk, W.D, hc]
  unfold runP toldP
  rcases hk with hk | hk | hk | hk
  · obtain ⟨h3, h4, h5⟩ := h1 (by omega)
    simp only [hk, show ((1 : Int) == 2) = false from rfl, show ((1 : Int) == 3) = false from rfl, show ((1 : Int) == 1) = true from rfl, cond_true, cond_false, point_eq a.key h3 h4, W.D, i_scanned_eq p _ _ _ hn]
    rw [scK_one p a.key hr _ (fun o x h => by rw [point_has] at h; simp at h; simp [h]) (fun x h => by rw [point_has, h]; rfl) p.length (Nat.le_refl _), one_all p a.key hr]
  · simp only [hk, show ((2 : Int) == 2) = true from rfl, cond_true, i_put_eq p ⟨a.key, a.val⟩ hr hn, W.D]
  · simp only [hk, show ((3 : Int) == 2) = false from rfl, show ((3 : Int) == 3) = true from rfl, cond_true, cond_false, i_take_eq p a.key hr (by omega), W.D]
  · simp only [hk, show ((4 : Int) == 2) = false from rfl, show ((4 : Int) == 3) = false from rfl, show ((4 : Int) == 1) = false from rfl, cond_true, cond_false, i_scanned_eq p _ _ _ hn, W.D]
theorem i_RunAsk_eq (p : List Pair) (a : Ask) (hn : (p.length + 2) * 32 ≤ 140737488355328) : i_RunAsk p a = some (RunP p a) := by
  simp only [i_RunAsk, wi_RunAsk, W.D, i_DataOk_eq p (by omega), i_AskOk_eq]
  unfold RunP
  cases hd : dOk p with
  | false => rfl
  | true =>
    cases ha : aOk a with
    | false => rfl
    | true =>
      simp only [Bool.not_true, cond_false, Bool.and_true, cond_true, i_runAsk_eq p a hn ((dOk_iff p).1 hd).2 ha, W.D]
theorem s_RunAsk_eq (p : List Pair) (a : Ask) (hn : (p.length + 2) * 32 ≤ 140737488355328) : s_RunAsk p a = some (RunP p a) := by
  simp only [s_RunAsk, ws_RunAsk, W.D, s_DataOk_eq p (by omega), s_AskOk_eq]
  unfold RunP
  cases hd : dOk p with
  | false => rfl
  | true =>
    cases ha : aOk a with
    | false => rfl
    | true =>
      obtain ⟨hk, h1, h2, _⟩ := aOk_f ha
      obtain ⟨hg, hr⟩ := (dOk_iff p).1 hd
      have hc : (([] : List Pair).length + p.length) * 32 ≤ 140737488355328 := by simp only [List.length_nil]; omega
      have hh : ∀ x ∈ p, a.kind = 4 → s_RangeHas a.range x.key = some (hasR a.range x.key) := fun x hx h => by
        have := hg x hx
        unfold prOk at this
        simp only [Bool.and_eq_true, decide_eq_true_eq] at this
        exact s_has_eq _ _ (h2 h).1 this.1.1 this.1.2
      simp only [Bool.not_true, cond_false, Bool.and_true, cond_true, W.D, if_pos hc, s_put_eq p _ hn hr]
      unfold runP toldP
      rcases hk with hk | hk | hk | hk
      · obtain ⟨h3, h4, h5⟩ := h1 (by omega)
        rw [s_told_eq p a hn hh (.inl hk)]
        simp only [hk, show ((1 : Int) == 2) = false from rfl, show ((1 : Int) == 3) = false from rfl, show ((1 : Int) == 1) = true from rfl, cond_true, cond_false, W.D, h5]
        rw [scK_one p a.key hr _ (fun o x h => h) (fun x h => h) p.length (Nat.le_refl _), one_all p a.key hr]
      · simp only [hk, show ((2 : Int) == 2) = true from rfl, show ((2 : Int) == 3) = false from rfl, cond_true, cond_false]
      · simp only [hk, show ((3 : Int) == 2) = false from rfl, show ((3 : Int) == 3) = true from rfl, cond_true, cond_false]
      · rw [s_told_eq p a hn hh (.inr hk)]
        simp only [hk, show ((4 : Int) == 2) = false from rfl, show ((4 : Int) == 3) = false from rfl, show ((4 : Int) == 1) = false from rfl, cond_true, cond_false, W.D]
theorem putP_len (p : List Pair) (k : ByteArray) (xs : List Pair) : (putP p k xs).length ≤ p.length + xs.length := by
  have h1 := at_le p k
  have h2 := at_to (p := p) (k := k)
  unfold putP
  simp only [List.length_append, List.length_take, List.length_drop]
  omega
theorem oneP_len (p : List Pair) (k : ByteArray) : (oneP p k).length ≤ 1 := by
  unfold oneP
  cases has_ p k <;> simp <;> omega
theorem runP_len (p : List Pair) (a : Ask) : (runP p a).1.length ≤ p.length + 1 ∧ (runP p a).2.length ≤ p.length + 1 := by
  unfold runP toldP
  have h1 := putP_len p a.key [⟨a.key, a.val⟩]
  have h2 := putP_len p a.key []
  have h3 := oneP_len p a.key
  have h4 := scK_len (fun o x => hasR a.range x.key && decide ((o.length : Int) < a.most)) p a.back p.length
  cases a.kind == 2 <;> cases a.kind == 3 <;> cases a.kind == 1 <;> simp only [cond_true, cond_false, List.length_nil, List.length_singleton] at * <;> constructor <;> omega
theorem RunP_len (p : List Pair) (a : Ask) : (RunP p a).1.length ≤ p.length + 1 ∧ (RunP p a).2.1.length ≤ p.length + 1 := by
  unfold RunP
  have := runP_len p a
  cases dOk p && aOk a
  · simp
  · exact this
end Go.Proofs.Ytagoajkiccgmjaa
namespace Go.Proofs.Ytagoajkiccgmjaa
open Go.Mv Go.RowKit

/-- What a draw reads from is in order. -/
def CurOk (c : L01Cur) : Prop := 0 ≤ c.i ∧ c.i ≤ c.b.length ∧ c.b.length ≤ 1048576
theorem and255 (x : Int) : 0 ≤ IntKind.wrap .i64 (((BitVec.ofInt 64 x &&& BitVec.ofInt 64 255).toNat : Nat) : Int) ∧ IntKind.wrap .i64 (((BitVec.ofInt 64 x &&& BitVec.ofInt 64 255).toNat : Nat) : Int) < 256 := by
  have h : (BitVec.ofInt 64 x &&& BitVec.ofInt 64 255).toNat ≤ 255 := by
    rw [BitVec.toNat_and]
    exact Nat.and_le_right
  rw [wrapL _ (by omega) (by omega)]
  omega
theorem g_byte (c : L01Cur) (hc : CurOk c) : Gives (s_l01Byte c) (fun r => CurOk r.1 ∧ 0 ≤ r.2 ∧ r.2 < 256) := by
  obtain ⟨h0, h1, h2⟩ := hc
  simp only [s_l01Byte, ws_l01Byte, W.E]
  refine gives_bnd (P := fun j => 0 ≤ j.w0_0_1 ∧ j.w0_0_1 ≤ (c.b.length : Int) ∧ 0 ≤ j.v3 ∧ j.v3 < 256) (gives_cond (fun h => ?_) (fun h => ?_)) (fun j hj => gives_some ⟨⟨hj.1, hj.2.1, h2⟩, hj.2.2⟩)
  · have hlt := of_decide_eq_true h
    refine gives_bnd (P := fun _ => True) (gives_getI h0 hlt (fun _ _ _ => trivial)) (fun x _ => gives_some ⟨?_, ?_, and255 _⟩) <;> dsimp only <;> rw [wrapL _ (by omega) (by omega)] <;> omega
  · exact gives_some ⟨h0, h1, and255 _⟩
theorem tmod_in (a n : Int) (h0 : 0 ≤ a) (hn : 0 < n) : 0 ≤ Int.tmod a n ∧ Int.tmod a n < n := ⟨Int.tmod_nonneg _ h0, Int.tmod_lt_of_pos _ hn⟩
theorem g_below (c : L01Cur) (n : Int) (hc : CurOk c) : Gives (s_l01Below c n) (fun r => CurOk r.1 ∧ 0 ≤ r.2 ∧ (0 < n → r.2 < n)) := by
  simp only [s_l01Below, ws_l01Below, W.E]
  refine gives_cond (fun h => gives_some ⟨hc, Int.le_refl _, fun hn => ?_⟩) (fun h => gives_cond (fun _ => ?_) (fun _ => ?_))
  · have := of_decide_eq_true h; omega
  · have hn : 0 < n := by have := of_decide_eq_false h; omega
    refine gives_bnd (g_byte c hc) (fun r hr => gives_chk (by omega) (gives_some ⟨hr.1, ?_, fun _ => ?_⟩))
    · exact (tmod_in _ _ hr.2.1 hn).1
    · exact (tmod_in _ _ hr.2.1 hn).2
  · have hn : 0 < n := by have := of_decide_eq_false h; omega
    refine gives_bnd (g_byte c hc) (fun r2 h2 => gives_bnd (g_byte _ h2.1) (fun r3 h3 => gives_bnd (g_byte _ h3.1) (fun r4 h4 => gives_bnd (g_byte _ h4.1) (fun r5 h5 => gives_chk (by omega) ?_))))
    have w1 : IntKind.wrap .i64 (r2.2 * 16777216) = r2.2 * 16777216 := wrapL _ (by omega) (by omega)
    have w2 : IntKind.wrap .i64 (r3.2 * 65536) = r3.2 * 65536 := wrapL _ (by omega) (by omega)
    have w3 : IntKind.wrap .i64 (r4.2 * 256) = r4.2 * 256 := wrapL _ (by omega) (by omega)
    have w4 : IntKind.wrap .i64 (r2.2 * 16777216 + r3.2 * 65536) = r2.2 * 16777216 + r3.2 * 65536 := wrapL _ (by omega) (by omega)
    have w5 : IntKind.wrap .i64 (r2.2 * 16777216 + r3.2 * 65536 + r4.2 * 256) = r2.2 * 16777216 + r3.2 * 65536 + r4.2 * 256 := wrapL _ (by omega) (by omega)
    have w6 : IntKind.wrap .i64 (r2.2 * 16777216 + r3.2 * 65536 + r4.2 * 256 + r5.2) = r2.2 * 16777216 + r3.2 * 65536 + r4.2 * 256 + r5.2 := wrapL _ (by omega) (by omega)
    rw [w1, w2, w3, w4, w5, w6]
    have := tmod_in (r2.2 * 16777216 + r3.2 * 65536 + r4.2 * 256 + r5.2) n (by omega) hn
    exact gives_some ⟨h5.1, this.1, fun _ => this.2⟩
theorem g_new (b : List Int) (hb : b.length ≤ 1048576) : Gives (s_l01New b) CurOk := by
  simp only [s_l01New, ws_l01New, W.E]
  refine gives_bnd (P := fun _ => True) (gives_loop (fun s => 0 ≤ s.v4 ∧ s.v4 ≤ 4000) (fun s => 4000 - s.v4.toNat) (fun s hs => ?_) ⟨by dsimp only; omega, by dsimp only; omega⟩) (fun j _ => gives_some ⟨Int.le_refl _, by simp, hb⟩)
  simp only [Bs_l01New_1, W.E]
  refine gives_bnd (P := fun j => j = true → s.v4 < b.length ∧ s.v4 < 4000) (gives_cond (fun h => gives_some fun h2 => ⟨of_decide_eq_true h, of_decide_eq_true h2⟩) fun _ => gives_some fun h => by cases h) fun j hj => gives_cond (fun h => ?_) (fun h => gives_some trivial)
  obtain ⟨h1, h2⟩ := hj h
  refine gives_bnd (P := fun _ => True) (gives_getI hs.1 h1 (fun _ _ _ => trivial)) (fun x _ => gives_some ⟨?_, ?_⟩) <;> dsimp only <;> rw [wrapL _ (by omega) (by omega)] <;> omega

/-! ### Keys, values, ranges -/
theorem g_raw (c : L01Cur) (hc : CurOk c) : Gives (s_l01Raw c) (fun r => CurOk r.1) := by
  simp only [s_l01Raw, ws_l01Raw, W.E]
  refine gives_bnd (g_below c 10 hc) fun r1 h1 => gives_cond (fun _ => gives_bnd (g_below _ _ h1.1) fun r h => gives_some h.1) fun _ => gives_cond (fun _ => gives_bnd (g_below _ _ h1.1) fun r h => gives_some h.1) fun _ =>
    gives_cond (fun _ => gives_bnd (g_below _ _ h1.1) fun r h => gives_some h.1) fun _ => gives_cond (fun _ => gives_bnd (g_below _ _ h1.1) fun r h => gives_some h.1) fun _ => gives_cond (fun _ => gives_bnd (g_below _ _ h1.1) fun r h => gives_some h.1) fun _ =>
    gives_cond (fun _ => gives_bnd (g_below _ 8 h1.1) fun r h => gives_bnd (P := fun _ => True) (gives_getI h.2.1 (h.2.2 (by decide)) fun _ _ _ => trivial) fun x _ => gives_some h.1) fun _ => gives_bnd (g_below _ _ h1.1) fun r h => gives_some h.1
theorem num_eq (n : Int) (h0 : 0 ≤ n) (h1 : n < 100) : s_l01Num n = some true := by
  simp only [s_l01Num, ws_l01Num, W.D]
  rw [decide_eq_true h0, decide_eq_true (by omega)]
  rfl
theorem numText_small (n : Int) (h0 : 0 ≤ n) (h1 : n < 100) : Gives (s_NumText n) (fun v => v.size ≤ 2) := by
  have e1 : ∀ b : Int, (byteB b).size = 1 := fun b => by simp [byteB, ByteArray.size]
  have one : ∀ k (m : Int), 0 ≤ m → m < 10 → (s_NumText_R (k + 1)).1 m = some (byteB (IntKind.wrap .u8 (IntKind.wrap .i64 (48 + m)))) := fun k m g0 g1 => by
    show (ws_NumText (s_NumText_R k).1 (s_NumText_R k).2 m).den = _
    simp only [ws_NumText, W.D, num_eq m g0 (by omega)]
    rw [decide_eq_true (show m < 10 by omega)]
    rfl
  unfold s_NumText
  by_cases h : n < 10
  · refine gives_eq (lim_val 1 (one 0 n h0 h) fun k v' hk => ?_) (by rw [e1]; decide)
    cases k with
    | zero => cases hk
    | succ k => rw [one k n h0 h] at hk; exact (Option.some.inj hk).symm
  · have hd : IntKind.wrap .i64 (Int.tdiv n 10) = n / 10 := by rw [Int.tdiv_eq_ediv_of_nonneg h0, wrapL _ (by omega) (by omega)]
    have two : ∀ k, (s_NumText_R (k + 2)).1 n = some (byteB (IntKind.wrap .u8 (IntKind.wrap .i64 (48 + n / 10))) ++ byteB (IntKind.wrap .u8 (IntKind.wrap .i64 (48 + Int.tmod n 10)))) := fun k => by
      show (ws_NumText (s_NumText_R (k + 1)).1 (s_NumText_R (k + 1)).2 n).den = _
      simp only [ws_NumText, W.D, num_eq n h0 h1, hd, one k (n / 10) (by omega) (by omega)]
      rw [decide_eq_false h, if_pos (by rw [e1, e1]; decide)]
      rfl
    refine gives_eq (lim_val 2 (two 0) fun k v' hk => ?_) (by rw [ByteArray.size_append, e1, e1]; decide)
    match k, hk with
    | 0, hk => cases hk
    | 1, hk =>
      exfalso
      have : (s_NumText_R 1).1 n = none := by
        show (ws_NumText (s_NumText_R 0).1 (s_NumText_R 0).2 n).den = _
        simp only [ws_NumText, W.D, num_eq n h0 h1]
        rw [decide_eq_false h]
        rfl
      rw [this] at hk; cases hk
    | k + 2, hk => rw [two k] at hk; exact (Option.some.inj hk).symm
theorem g_key (c : L01Cur) (hc : CurOk c) : Gives (s_l02Key c) (fun r => CurOk r.1) := by
  simp only [s_l02Key, ws_l02Key, W.E]
  refine gives_bnd (g_below c 20 hc) fun r1 h1 => gives_cond (fun h => ?_) fun _ => gives_cond (fun _ => gives_some h1.1) fun _ => gives_cond (fun _ => gives_some h1.1) fun _ => gives_bnd (g_below _ 30 h1.1) fun r2 h2 => ?_
  · have := of_decide_eq_true h
    exact gives_bnd (P := fun _ => True) (gives_getI h1.2.1 (by simpa using this) fun _ _ _ => trivial) fun x _ => gives_some h1.1
  · refine gives_bnd (numText_small _ h2.2.1 (by have := h2.2.2 (by decide); omega)) fun r3 h3 => gives_chk ?_ (gives_some h2.1)
    have : (⟨#[107]⟩ : ByteArray).size = 1 := rfl
    omega
theorem g_anyKey (c : L01Cur) (hc : CurOk c) : Gives (s_l02AnyKey c) (fun r => CurOk r.1) := by
  simp only [s_l02AnyKey, ws_l02AnyKey, W.E]
  exact gives_bnd (g_below c 8 hc) fun r1 h1 => gives_cond (fun _ => gives_bnd (g_below _ 4 h1.1) fun r2 h2 => gives_bnd (P := fun _ => True) (gives_getI h2.2.1 (h2.2.2 (by decide)) fun _ _ _ => trivial) fun x _ => gives_some h2.1) fun _ => gives_bnd (g_key _ h1.1) fun r h => gives_some h
theorem g_val (c : L01Cur) (hc : CurOk c) : Gives (s_l02Val c) (fun r => CurOk r.1) := by
  simp only [s_l02Val, ws_l02Val, W.E]
  refine gives_bnd (g_below c 12 hc) fun r1 h1 => gives_cond (fun _ => gives_some h1.1) fun _ => gives_cond (fun _ => gives_chk (by decide) (gives_chk (fun n hn => ?_) (gives_some h1.1))) fun _ => gives_bnd (g_below _ 50 h1.1) fun r2 h2 => ?_
  · have := List.eq_of_mem_replicate hn
    omega
  · refine gives_bnd (numText_small _ h2.2.1 (by have := h2.2.2 (by decide); omega)) fun r3 h3 => gives_chk ?_ (gives_some h2.1)
    have : (⟨#[118]⟩ : ByteArray).size = 1 := rfl
    omega
theorem g_anyVal (c : L01Cur) (hc : CurOk c) : Gives (s_l02AnyVal c) (fun r => CurOk r.1) := by
  simp only [s_l02AnyVal, ws_l02AnyVal, W.E]
  refine gives_bnd (g_below c 14 hc) fun r1 h1 => gives_cond (fun _ => gives_chk (by decide) (gives_chk (fun n hn => ?_) (gives_some h1.1))) fun _ => gives_bnd (g_val _ h1.1) fun r h => gives_some h
  have := List.eq_of_mem_replicate hn
  omega
theorem g_user (c : L01Cur) (hc : CurOk c) : Gives (s_l08User c) (fun r => CurOk r.1 ∧ r.2.size ≤ 8) := by
  simp only [s_l08User, ws_l08User, W.E]
  refine gives_bnd (g_below c 24 hc) fun r1 h1 => gives_bnd (P := fun x => x.size ≤ 8) (gives_getI (tmod_in _ 12 h1.2.1 (by decide)).1 (tmod_in _ 12 h1.2.1 (by decide)).2 fun x _ hx => ?_) fun x hx => gives_some ⟨h1.1, hx⟩
  simp only [List.mem_cons, List.not_mem_nil, or_false] at hx
  rcases hx with h | h | h | h | h | h | h | h | h | h | h | h <;> subst h <;> decide
theorem g_uval (c : L01Cur) (hc : CurOk c) : Gives (s_l08Uval c) (fun r => CurOk r.1) := by
  simp only [s_l08Uval, ws_l08Uval, W.E]
  exact gives_bnd (g_below c 6 hc) fun r1 h1 => gives_bnd (P := fun _ => True) (gives_getI h1.2.1 (h1.2.2 (by decide)) fun _ _ _ => trivial) fun x hx => gives_some h1.1
theorem keyOk_some (k : ByteArray) : Gives (s_KeyOk k) (fun b => b = true → k.size ≤ 16) := by
  simp only [s_KeyOk, ws_KeyOk, W.E]
  refine gives_bnd (P := fun b => b = true → k.size ≤ 16) (gives_cond (fun _ => gives_some fun h => ?_) fun _ => gives_some fun h => by cases h) fun j hj => gives_some hj
  have := of_decide_eq_true h
  omega
theorem g_pointOf (k : ByteArray) : Gives (s_PointOf k) (fun _ => True) := by
  simp only [s_PointOf, ws_PointOf, W.E]
  refine gives_bnd (keyOk_some k) fun b hb => gives_cond (fun _ => gives_some trivial) fun h => gives_chk ?_ (gives_some trivial)
  have := hb (by simpa using h)
  have e : (⟨#[0]⟩ : ByteArray).size = 1 := rfl
  omega
theorem g_reach (c : L01Cur) (hc : CurOk c) : Gives (s_l08Reach c) (fun r => CurOk r.1) := by
  simp only [s_l08Reach, ws_l08Reach, W.E]
  exact gives_bnd (g_user c hc) fun r1 h1 => gives_bnd (g_user _ h1.1) fun r2 h2 => gives_cond (fun _ => gives_bnd (g_pointOf _) fun r3 _ => gives_some h2.1) fun _ => gives_bnd (g_below _ 4 h2.1) fun r4 h4 => gives_cond (fun _ => gives_some h4.1) fun _ => gives_some h4.1
theorem g_ask (c : L01Cur) (hc : CurOk c) : Gives (s_l09Ask c) (fun r => CurOk r.1) := by
  simp only [s_l09Ask, ws_l09Ask, W.E]
  refine gives_bnd (g_below c 4 hc) fun r1 h1 => gives_cond (fun _ => gives_bnd (g_reach _ h1.1) fun r2 h2 => gives_bnd (g_below _ 8 h2) fun r3 h3 => gives_bnd (g_below _ 2 h3.1) fun r4 h4 => gives_some h4.1) fun _ => gives_bnd (g_user _ h1.1) fun r5 h5 => ?_
  exact gives_bnd (P := fun j => CurOk ⟨j.w0_0_0, j.w0_0_1, j.w0_0_2⟩) (gives_cond (fun _ => gives_bnd (g_uval _ h5.1) fun r6 h6 => gives_some h6) fun _ => gives_some h5.1) fun j k => gives_some k
theorem g_range (c : L01Cur) (hc : CurOk c) : Gives (s_l02Range c) (fun r => CurOk r.1) := by
  simp only [s_l02Range, ws_l02Range, W.E]
  exact gives_bnd (g_key c hc) fun r1 h1 => gives_bnd (g_key _ h1) fun r2 h2 => gives_bnd (g_below _ 6 h2) fun r3 h3 => gives_cond (fun _ => gives_some h3.1) fun _ => gives_cond (fun _ => gives_some h3.1) fun _ =>
    gives_bnd (P := fun _ => True) (gives_cond (fun _ => gives_some trivial) fun _ => gives_some trivial) fun j _ => gives_cond (fun _ => gives_bnd (g_pointOf _) fun r4 _ => gives_some h3.1) fun _ => gives_cond (fun _ => gives_some h3.1) fun _ => gives_some h3.1
theorem g_anyRange (c : L01Cur) (hc : CurOk c) : Gives (s_l02AnyRange c) (fun r => CurOk r.1) := by
  simp only [s_l02AnyRange, ws_l02AnyRange, W.E]
  refine gives_bnd (g_range c hc) fun r1 h1 => gives_bnd (g_below _ 14 h1) fun r2 h2 => ?_
  refine gives_bnd (P := fun _ => True) (gives_cond (fun _ => gives_some trivial) fun _ => gives_some trivial) fun j1 _ => ?_
  refine gives_bnd (P := fun j => CurOk ⟨j.w0_0_0, j.w0_0_1, j.w0_0_2⟩) (gives_cond (fun _ => gives_bnd (g_below _ 2 h2.1) fun r3 h3 => ?_) fun _ => gives_some h2.1) fun j2 k2 => ?_
  · have hw : IntKind.wrap .i64 (17 + r3.2) = 17 + r3.2 := by have := h3.2.2 (by decide); have := h3.2.1; exact wrapL _ (by omega) (by omega)
    have := h3.2.2 (by decide)
    have := h3.2.1
    refine gives_chk (by rw [hw]; omega) (gives_chk (fun n hn => ?_) (gives_some h3.1))
    have := List.eq_of_mem_replicate hn
    omega
  refine gives_bnd (P := fun j => CurOk ⟨j.w0_0_0, j.w0_0_1, j.w0_0_2⟩) (gives_cond (fun _ => gives_bnd (g_below _ 2 k2) fun r4 h4 => gives_bnd (P := fun x => x.size ≤ 1) (gives_getI h4.2.1 (h4.2.2 (by decide)) fun x _ hx => ?_) fun x hx => gives_chk ?_ (gives_some h4.1)) fun _ => gives_some k2) fun j3 k3 => ?_
  · simp only [List.mem_cons, List.not_mem_nil, or_false] at hx
    rcases hx with rfl | rfl <;> decide
  · have : (⟨#[122, 122, 122, 122, 122, 122, 122, 122, 122, 122, 122, 122, 122, 122, 122, 122, 122]⟩ : ByteArray).size = 17 := rfl
    omega
  exact gives_bnd (P := fun _ => True) (gives_cond (fun _ => gives_some trivial) fun _ => gives_some trivial) fun j4 _ => gives_some k3
theorem g_anyAsk (c : L01Cur) (hc : CurOk c) : Gives (s_l09AnyAsk c) (fun r => CurOk r.1) := by
  simp only [s_l09AnyAsk, ws_l09AnyAsk, W.E]
  refine gives_bnd (g_ask c hc) fun r1 h1 => gives_bnd (g_below _ 14 h1) fun r2 h2 => ?_
  refine gives_bnd (P := fun j => CurOk ⟨j.w0_0_0, j.w0_0_1, j.w0_0_2⟩) (gives_cond (fun _ => gives_bnd (g_raw _ h2.1) fun r h => gives_some h) fun _ => gives_some h2.1) fun j1 k1 => ?_
  refine gives_bnd (P := fun j => CurOk ⟨j.w0_0_0, j.w0_0_1, j.w0_0_2⟩) (gives_cond (fun _ => gives_bnd (g_below _ 3 k1) fun r4 h4 => gives_bnd (P := fun _ => True) (gives_getI h4.2.1 (h4.2.2 (by decide)) fun _ _ _ => trivial) fun x _ => gives_some h4.1) fun _ => gives_some k1) fun j2 k2 => ?_
  refine gives_bnd (P := fun j => CurOk ⟨j.w0_0_0, j.w0_0_1, j.w0_0_2⟩) (gives_cond (fun _ => gives_bnd (g_below _ 3 k2) fun r4 h4 => gives_bnd (P := fun _ => True) (gives_getI h4.2.1 (h4.2.2 (by decide)) fun _ _ _ => trivial) fun x _ => gives_some h4.1) fun _ => gives_some k2) fun j3 k3 => ?_
  refine gives_bnd (P := fun j => CurOk ⟨j.w0_0_0, j.w0_0_1, j.w0_0_2⟩) (gives_cond (fun _ => gives_bnd (g_anyRange _ k3) fun r6 h6 => gives_some h6) fun _ => gives_some k3) fun j4 k4 => ?_
  exact gives_bnd (P := fun _ => True) (gives_cond (fun _ => gives_some trivial) fun _ => gives_some trivial) fun j5 _ => gives_some k4
end Go.Proofs.Ytagoajkiccgmjaa
namespace Go.Proofs.Ytagoajkiccgmjaa
open Go.Mv Go.RowKit

/-! ### What is put stays in order -/
theorem rising_iff (p : List Pair) : Rising p ↔ p.Pairwise fun x y => Op.bytesLess x.key.toList y.key.toList = true := by
  rw [List.pairwise_iff_getElem]
  constructor
  · intro h i j hi hj hij
    exact h i j _ _ hij (List.getElem?_eq_getElem hi) (List.getElem?_eq_getElem hj)
  · intro h i j x y hij hx hy
    obtain ⟨hi, rfl⟩ := List.getElem?_eq_some_iff.1 hx
    obtain ⟨hj, rfl⟩ := List.getElem?_eq_some_iff.1 hy
    exact h i j hi hj hij
theorem mem_before {p : List Pair} {k : ByteArray} {x : Pair} (h : x ∈ p.take (at_ p k)) : Op.bytesLess x.key.toList k.toList = true := by
  obtain ⟨i, hi⟩ := List.mem_iff_getElem?.1 h
  rw [List.getElem?_take] at hi
  split at hi
  · rename_i h; exact at_lt h hi
  · cases hi
theorem mem_behind {p : List Pair} (hr : Rising p) {k : ByteArray} {x : Pair} (h : x ∈ p.drop (to_ p k)) : Op.bytesLess k.toList x.key.toList = true := by
  obtain ⟨i, hi⟩ := List.mem_iff_getElem?.1 h
  rw [List.getElem?_drop] at hi
  have h0 := at_to (p := p) (k := k)
  rcases Nat.lt_or_eq_of_le (show at_ p k ≤ to_ p k + i by omega) with h1 | h1
  · exact at_gt hr h1 hi
  · have h2 := at_ge hr (Nat.le_of_eq h1) hi
    have h3 : (x.key.toList == k.toList) = false := by
      cases h4 : x.key.toList == k.toList with
      | false => rfl
      | true =>
        have : has_ p k = true := by unfold has_; rw [h1, hi]; exact h4
        unfold to_ at h1
        rw [this] at h1
        simp at h1
        omega
    rw [bL_total] at h2
    have h5 : (k.toList == x.key.toList) = false := by rw [Bool.eq_false_iff] at h3 ⊢; intro h; apply h3; rw [beq_iff_eq] at h ⊢; exact h.symm
    rw [h5] at h2
    simpa using h2
theorem put_rising {p : List Pair} (hr : Rising p) (k : ByteArray) (xs : List Pair) (hx : xs = [] ∨ ∃ v, xs = [⟨k, v⟩]) : Rising (putP p k xs) := by
  have hp := (rising_iff p).1 hr
  rw [rising_iff]
  unfold putP
  have hAB : ∀ x ∈ p.take (at_ p k), ∀ y ∈ p.drop (to_ p k), Op.bytesLess x.key.toList y.key.toList = true := fun x h1 y h2 => bL_trans (mem_before h1) (mem_behind hr h2)
  have hA := hp.sublist (List.take_sublist (at_ p k) p)
  have hB := hp.sublist (List.drop_sublist (to_ p k) p)
  rcases hx with rfl | ⟨v, rfl⟩
  · rw [List.append_nil, List.pairwise_append]
    exact ⟨hA, hB, hAB⟩
  · rw [List.pairwise_append, List.pairwise_append]
    refine ⟨⟨hA, List.pairwise_singleton _ _, fun x h1 y h2 => ?_⟩, hB, fun x h1 y h2 => ?_⟩
    · rw [List.mem_singleton] at h2; subst h2; exact mem_before h1
    · rcases List.mem_append.1 h1 with h1 | h1
      · exact hAB x h1 y h2
      · rw [List.mem_singleton] at h1; subst h1; exact mem_behind hr h2
theorem mem_put {p : List Pair} {k : ByteArray} {xs : List Pair} {x : Pair} (h : x ∈ putP p k xs) : x ∈ p ∨ x ∈ xs := by
  unfold putP at h
  rcases List.mem_append.1 h with h | h
  · rcases List.mem_append.1 h with h | h
    · exact .inl (List.mem_of_mem_take h)
    · exact .inr h
  · exact .inl (List.mem_of_mem_drop h)
theorem put_ok {p : List Pair} (hd : dOk p = true) (k : ByteArray) (xs : List Pair) (hx : xs = [] ∨ ∃ v, xs = [⟨k, v⟩]) (hk : ∀ x ∈ xs, prOk x = true) : dOk (putP p k xs) = true := by
  obtain ⟨h1, h2⟩ := (dOk_iff p).1 hd
  refine (dOk_iff _).2 ⟨fun x h => ?_, put_rising h2 k xs hx⟩
  rcases mem_put h with h | h
  · exact h1 x h
  · exact hk x h
/-- Of rising pairs with a key there is the one. -/
theorem one_in {q : List Pair} (hr : Rising q) {k : ByteArray} {x : Pair} (hx : x ∈ q) (hk : x.key = k) : oneP q k = [x] := by
  obtain ⟨i, hi⟩ := List.mem_iff_getElem?.1 hx
  have : i = at_ q k := by
    rcases Nat.lt_trichotomy i (at_ q k) with h | h | h
    · have := at_lt h hi; rw [hk, bL_irr] at this; cases this
    · exact h
    · have := at_gt hr h hi; rw [hk, bL_irr] at this; cases this
  subst this
  obtain ⟨hl, he⟩ := List.getElem?_eq_some_iff.1 hi
  have hh : has_ q k = true := by unfold has_; rw [hi]; dsimp only; rw [hk]; simp
  unfold oneP
  rw [hh, cond_true, List.drop_eq_getElem_cons hl, he]
  rfl
theorem one_out {q : List Pair} {k : ByteArray} (h : ∀ x ∈ q, (x.key.toList == k.toList) = false) : oneP q k = [] := by
  have hh : has_ q k = false := by
    unfold has_
    cases hx : q[at_ q k]? with
    | none => rfl
    | some x => exact h x (List.mem_of_getElem? hx)
  unfold oneP
  rw [hh, cond_false]
theorem runP_ok {p : List Pair} {a : Ask} (hd : dOk p = true) (ha : aOk a = true) : dOk (runP p a).1 = true := by
  obtain ⟨hk, h1, h2, h3⟩ := aOk_f ha
  unfold runP
  rcases hk with hk | hk | hk | hk
  · simpa [hk] using hd
  · obtain ⟨h4, h5, _⟩ := h1 (by omega)
    have h6 := h3 hk
    simp only [hk, show ((2 : Int) == 2) = true from rfl, cond_true]
    refine put_ok hd _ _ (.inr ⟨_, rfl⟩) fun x hx => ?_
    rw [List.mem_singleton] at hx
    subst hx
    simp [prOk, h4, h5, h6]
  · simp only [hk, show ((3 : Int) == 2) = false from rfl, show ((3 : Int) == 3) = true from rfl, cond_true, cond_false]
    exact put_ok hd _ _ (.inl rfl) fun x hx => by cases hx
  · simpa [hk] using hd
theorem scK_most (r : Range) (m : Int) (p : List Pair) (back : Bool) (hm : 0 ≤ m) : ∀ i, ((scK (fun o x => hasR r x.key && decide ((o.length : Int) < m)) p back i).length : Int) ≤ m
  | 0 => by simpa [scK] using hm
  | i + 1 => by
    have := scK_most r m p back hm i
    unfold scK
    split
    · rename_i x _
      generalize scK (fun o x => hasR r x.key && decide ((o.length : Int) < m)) p back i = o at this ⊢
      cases hasR r x.key with
      | false => simpa using this
      | true =>
        by_cases h : (o.length : Int) < m
        · rw [decide_eq_true h]; simp; omega
        · rw [decide_eq_false h]; simpa using this
    · exact this
end Go.Proofs.Ytagoajkiccgmjaa
namespace Go.Proofs.Ytagoajkiccgmjaa
open Go.Mv Go.RowKit

theorem g_data (c : L01Cur) (hc : CurOk c) : Gives (s_l13Data c) (fun r => CurOk r.1 ∧ r.2.length ≤ 6) := by
  simp only [s_l13Data, ws_l13Data, W.E]
  refine gives_bnd (g_below c 7 hc) fun r1 h1 => ?_
  have h7 := h1.2.2 (by decide)
  refine gives_bnd (P := fun j => CurOk ⟨j.w0_0_0, j.w0_0_1, j.w0_0_2⟩ ∧ j.v3.length ≤ 6) (gives_loop (fun s => CurOk ⟨s.w0_0_0, s.w0_0_1, s.w0_0_2⟩ ∧ Rising s.v3 ∧ 0 ≤ s.v4 ∧ (s.v3.length : Int) + s.v4 ≤ 6) (fun s => s.v4.toNat) (fun s ⟨k1, k2, k3, k4⟩ => ?_) ⟨h1.1, fun i j x y _ h => by simp at h, h1.2.1, by simp; omega⟩) fun j k => gives_some k
  simp only [Bs_l13Data_1, W.E]
  refine gives_cond (fun h => ?_) fun h => gives_some ⟨k1, by show s.v3.length ≤ 6; omega⟩
  have h0 := of_decide_eq_true h
  refine gives_bnd (g_user _ k1) fun r2 h2 => gives_bnd (g_uval _ h2.1) fun r3 h3 => ?_
  have hl := putP_len s.v3 r2.2 [⟨r2.2, r3.2⟩]
  refine gives_bnd (P := fun v => v = putP s.v3 r2.2 [⟨r2.2, r3.2⟩]) (gives_eq (s_put_eq s.v3 ⟨r2.2, r3.2, false⟩ (by omega) k2) rfl) fun v hv => gives_some ?_
  subst hv
  have hw : IntKind.wrap .i64 (s.v4 - 1) = s.v4 - 1 := wrapL _ (by omega) (by omega)
  simp only [List.length_singleton] at hl
  refine ⟨⟨h3, put_rising k2 _ _ (.inr ⟨_, rfl⟩), ?_, ?_⟩, ?_⟩ <;> dsimp only <;> rw [hw] <;> omega
theorem g_any (c : L01Cur) (hc : CurOk c) : Gives (s_l13Any c) (fun r => CurOk r.1 ∧ r.2.length ≤ 6) := by
  simp only [s_l13Any, ws_l13Any, W.E]
  refine gives_bnd (g_data c hc) fun r1 h1 => ?_
  refine gives_bnd (P := fun j => CurOk ⟨j.w0_0_0, j.w0_0_1, j.w0_0_2⟩ ∧ (j.v13 = true → 0 < r1.2.length)) (gives_cond (fun h => gives_bnd (g_below _ 8 h1.1) fun r2 h2 => gives_some ⟨h2.1, fun _ => by have := of_decide_eq_true h; omega⟩) fun _ => gives_some ⟨h1.1, fun h => by cases h⟩) fun j1 k1 => ?_
  refine gives_bnd (P := fun j => CurOk ⟨j.w0_0_0, j.w0_0_1, j.w0_0_2⟩ ∧ j.w5_0.length ≤ 6) (gives_cond (fun h => ?_) fun _ => gives_some ⟨k1.1, h1.2⟩) fun j2 k2 => gives_some k2
  have hl := k1.2 h
  refine gives_bnd (g_below _ _ k1.1) fun r2 h2 => gives_bnd (g_anyKey _ h2.1) fun r3 h3 => gives_bnd (g_anyVal _ h3) fun r4 h4 => gives_bnd (P := fun _ => True) (gives_getI h2.2.1 (h2.2.2 (by omega)) fun _ _ _ => trivial) fun x _ => gives_some ⟨h4, ?_⟩
  simpa using h1.2
theorem g_draw (b : List Int) (hb : b.length ≤ 1048576) : Gives (s_DrawRunAsk b) (fun r => r.1.length ≤ 6) := by
  simp only [s_DrawRunAsk, ws_DrawRunAsk, W.E]
  exact gives_bnd (g_new b hb) fun r1 h1 => gives_bnd (g_any _ h1) fun r2 h2 => gives_bnd (g_ask _ h2.1) fun r3 h3 => gives_bnd (g_below _ 8 h3) fun r4 h4 =>
    gives_bnd (P := fun _ => True) (gives_cond (fun _ => gives_bnd (g_anyAsk _ h4.1) fun r5 h5 => gives_some trivial) fun _ => gives_some trivial) fun j _ => gives_some h2.2
theorem same_self (xs : List Pair) (hn : xs.length < 9223372036854775807) : w_samePairs xs xs = some true := by
  have hrun := loop_run' (f := fun s => (Bw_samePairs_1 xs xs s).den) (fun i => (i : Int)) xs.length (s0 := 0) (r := .inl ()) rfl (fun k hlt => by
      simp only [Bw_samePairs_1, W.D]
      rw [decide_eq_true (by omega : (k : Int) < (xs.length : Int)), cond_true, getI_at (List.getElem?_eq_getElem hlt), wrapL _ (by omega) (by omega)]
      simp only [W.D, beq_self_eq_true, Bool.and_self, Bool.not_true, cond_false]
      rfl) (by
      simp only [Bw_samePairs_1, W.D]
      rw [decide_eq_false (by omega), cond_false])
  simp only [w_samePairs, ww_samePairs, W.D, bne_self_eq_false, cond_false]
  rw [hrun]
  rfl
theorem get_ok (k : ByteArray) (h1 : 1 ≤ k.size) (h2 : k.size ≤ 8) : aOk ⟨1, k, ⟨#[]⟩, ⟨⟨#[]⟩, ⟨#[]⟩⟩, 0, false⟩ = true := by
  have h := i_AskOk_eq ⟨1, k, ⟨#[]⟩, ⟨⟨#[]⟩, ⟨#[]⟩⟩, 0, false⟩
  simp only [i_AskOk, wi_AskOk, W.D, i_UserOk_eq, show ((1 : Int) == 1) = true from rfl, cond_true, decide_eq_true h1, decide_eq_true h2, Bool.and_true, beq_self_eq_true, Bool.and_self] at h
  exact (Option.some.inj h).symm
/-- THE PLAIN LAW. -/
theorem law_FnRunAsk (b : List Int) : w_FnRunAsk b = some true := by
  simp only [w_FnRunAsk, ww_FnRunAsk, W.D]
  by_cases hb : (b.length : Int) > 1048576
  · rw [decide_eq_true hb]; rfl
  rw [decide_eq_false hb, cond_false]
  obtain ⟨⟨p, a⟩, hd, hp⟩ := g_draw b (by omega)
  dsimp only at hp
  obtain ⟨q1, q2⟩ := RunP_len p a
  simp only [W.D, hd, i_RunAsk_eq p a (by omega), s_RunAsk_eq p a (by omega), beq_self_eq_true, Bool.not_true, cond_false]
  rw [i_RunAsk_eq _ _ (by omega)]
  cases hk : dOk p && aOk a with
  | false =>
    unfold RunP
    rw [hk]
    rfl
  | true =>
    rw [Bool.and_eq_true] at hk
    obtain ⟨hk1, hk2⟩ := hk
    obtain ⟨g1, g2, g3, g4⟩ := aOk_f hk2
    have hn := runP_ok hk1 hk2
    have hR : RunP p a = ((runP p a).1, (runP p a).2, true) := by unfold RunP; rw [hk1, hk2]; rfl
    have hrise := ((dOk_iff p).1 hk1).2
    have q3 := (runP_len p a).1
    have hdn := i_DataOk_eq (runP p a).1 (by omega)
    rw [hn] at hdn
    rw [hR] at q1 ⊢
    simp only [W.D, Bool.not_true, cond_false, hdn]
    have hsm : RunP (runP p a).1 ⟨1, a.key, ⟨#[]⟩, ⟨⟨#[]⟩, ⟨#[]⟩⟩, 0, false⟩ = bif aOk ⟨1, a.key, ⟨#[]⟩, ⟨⟨#[]⟩, ⟨#[]⟩⟩, 0, false⟩ then ((runP p a).1, oneP (runP p a).1 a.key, true) else ([], [], false) := by
      unfold RunP
      rw [hn, Bool.true_and]
      rfl
    rw [hsm]
    have hso := oneP_len p a.key
    rcases g1 with hk | hk | hk | hk
    · have e : runP p a = (p, oneP p a.key) := by unfold runP toldP; rw [hk]; rfl
      rw [e]
      simp only [hk, show ((1 : Int) == 1) = true from rfl, cond_true, same_self p (by omega), W.D]
      rw [decide_eq_true (by omega)]
    · obtain ⟨h5, h6, _⟩ := g2 (by omega)
      have e : runP p a = (putP p a.key [⟨a.key, a.val⟩], []) := by unfold runP; rw [hk]; rfl
      have hm : (⟨a.key, a.val⟩ : Pair) ∈ putP p a.key [⟨a.key, a.val⟩] := by unfold putP; simp
      have ho := one_in (put_rising hrise a.key [⟨a.key, a.val⟩] (.inr ⟨_, rfl⟩)) hm rfl
      rw [e, get_ok a.key h5 h6]
      simp only [hk, show ((2 : Int) == 1) = false from rfl, show ((2 : Int) == 4) = false from rfl, show ((2 : Int) == 3) = false from rfl, cond_true, cond_false, ho, W.D]
      simp [getI]
    · obtain ⟨h5, h6, _⟩ := g2 (by omega)
      have e : runP p a = (putP p a.key [], []) := by unfold runP; rw [hk]; rfl
      have ho : oneP (putP p a.key []) a.key = [] := one_out fun x hx => by
        unfold putP at hx
        rw [List.append_nil] at hx
        rcases List.mem_append.1 hx with hx | hx
        · exact bL_ne (mem_before hx)
        · have := bL_ne (mem_behind hrise hx)
          cases h4 : x.key.toList == a.key.toList with
          | false => rfl
          | true => rw [beq_iff_eq] at h4; rw [h4] at this; simp at this
      rw [e, get_ok a.key h5 h6]
      simp only [hk, show ((3 : Int) == 1) = false from rfl, show ((3 : Int) == 4) = false from rfl, show ((3 : Int) == 3) = true from rfl, cond_true, cond_false, ho, W.D]
      rfl
    · have e : runP p a = (p, scK (fun o x => hasR a.range x.key && decide ((o.length : Int) < a.most)) p a.back p.length) := by unfold runP toldP; rw [hk]; rfl
      have hmost := (g3 hk).2
      have hl : ((scK (fun o x => hasR a.range x.key && decide ((o.length : Int) < a.most)) p a.back p.length).length : Int) ≤ 8 := by
        have := scK_len (fun o x => hasR a.range x.key && decide ((o.length : Int) < a.most)) p a.back p.length
        omega
      rw [e]
      simp only [hk, show ((4 : Int) == 1) = false from rfl, show ((4 : Int) == 4) = true from rfl, cond_true, cond_false, same_self p (by omega), W.D]
      rw [decide_eq_true hl]
theorem ok_FnRunAsk (b : List Int) : CallOK Try.prog 5 [lV 1 eN_u8 b] (bV true) [] := k_w_FnRunAsk b true (law_FnRunAsk b)
end Go.Proofs.Ytagoajkiccgmjaa
