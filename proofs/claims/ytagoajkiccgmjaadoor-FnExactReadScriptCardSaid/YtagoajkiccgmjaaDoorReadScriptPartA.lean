/- What functions of the given program compute, each proved once, for the law that is proved in YtagoajkiccgmjaaDoorReadScript: whatever their arguments, under the conditions that each theorem names. -/
import Derived.Test.YtagoajkiccgmjaaDoorProg
import Derived.Test.YtagoajkiccgmjaaDoorMvVII
import Derived.Shelf.Strings.OnBuilder
set_option linter.unusedVariables false
set_option linter.unusedSimpArgs false
namespace Go.Proofs.YtagoajkiccgmjaaDoor
open Go.Mv Go.RowKit
set_option maxRecDepth 100000
theorem eqD24_10000 : EqD Tryd.prog 10000 24 [.str, .str] :=
  eqD_struct (d := 9999) (fs := [⟨ "Lo", 9, 0, false, "", "", 0⟩, ⟨ "Hi", 9, 1, false, "", "", 16⟩]) (by kernel_rfl) (by kernel_rfl) (by kernel_rfl) (eqFs_leaf (by decide) rfl Tryd.isAgg9 (eqK_str (d := 9998) Tryd.underlying9) (eqFs_leaf (by decide) rfl Tryd.isAgg9 (eqK_str (d := 9998) Tryd.underlying9) eqFs_nil))
theorem eqOK24 : EqOK Tryd.prog 24 [.str, .str] := eqOK_of Tryd.eqGuardType24 eqD24_10000
theorem eqD24_9999 : EqD Tryd.prog 9999 24 [.str, .str] :=
  eqD_struct (d := 9998) (fs := [⟨ "Lo", 9, 0, false, "", "", 0⟩, ⟨ "Hi", 9, 1, false, "", "", 16⟩]) (by kernel_rfl) (by kernel_rfl) (by kernel_rfl) (eqFs_leaf (by decide) rfl Tryd.isAgg9 (eqK_str (d := 9997) Tryd.underlying9) (eqFs_leaf (by decide) rfl Tryd.isAgg9 (eqK_str (d := 9997) Tryd.underlying9) eqFs_nil))
theorem eqD26_10000 : EqD Tryd.prog 10000 26 [.int .i64, .str, .str, .str, .str, .int .i64, .bool] :=
  eqD_struct (d := 9999) (fs := [⟨ "Kind", 3, 0, false, "", "", 0⟩, ⟨ "Key", 9, 1, false, "", "", 8⟩, ⟨ "Val", 9, 2, false, "", "", 24⟩, ⟨ "Range", 24, 3, false, "", "", 40⟩, ⟨ "Most", 3, 5, false, "", "", 72⟩, ⟨ "Back", 4, 6, false, "", "", 80⟩]) (by kernel_rfl) (by kernel_rfl) (by kernel_rfl) (eqFs_leaf (by decide) rfl Tryd.isAgg3 (eqK_int (d := 9998) Tryd.underlying3) (eqFs_leaf (by decide) rfl Tryd.isAgg9 (eqK_str (d := 9998) Tryd.underlying9) (eqFs_leaf (by decide) rfl Tryd.isAgg9 (eqK_str (d := 9998) Tryd.underlying9) (eqFs_struct (by decide) rfl Tryd.isAgg24 Tryd.sizeOf24 rfl eqD24_9999 (ks := [.int .i64, .bool]) rfl (eqFs_leaf (by decide) rfl Tryd.isAgg3 (eqK_int (d := 9998) Tryd.underlying3) (eqFs_leaf (by decide) rfl Tryd.isAgg4 (eqK_bool (d := 9998) Tryd.underlying4) eqFs_nil))))))
theorem eqOK26 : EqOK Tryd.prog 26 [.int .i64, .str, .str, .str, .str, .int .i64, .bool] := eqOK_of Tryd.eqGuardType26 eqD26_10000
theorem eqD24_9998 : EqD Tryd.prog 9998 24 [.str, .str] :=
  eqD_struct (d := 9997) (fs := [⟨ "Lo", 9, 0, false, "", "", 0⟩, ⟨ "Hi", 9, 1, false, "", "", 16⟩]) (by kernel_rfl) (by kernel_rfl) (by kernel_rfl) (eqFs_leaf (by decide) rfl Tryd.isAgg9 (eqK_str (d := 9996) Tryd.underlying9) (eqFs_leaf (by decide) rfl Tryd.isAgg9 (eqK_str (d := 9996) Tryd.underlying9) eqFs_nil))
theorem eqD26_9999 : EqD Tryd.prog 9999 26 [.int .i64, .str, .str, .str, .str, .int .i64, .bool] :=
  eqD_struct (d := 9998) (fs := [⟨ "Kind", 3, 0, false, "", "", 0⟩, ⟨ "Key", 9, 1, false, "", "", 8⟩, ⟨ "Val", 9, 2, false, "", "", 24⟩, ⟨ "Range", 24, 3, false, "", "", 40⟩, ⟨ "Most", 3, 5, false, "", "", 72⟩, ⟨ "Back", 4, 6, false, "", "", 80⟩]) (by kernel_rfl) (by kernel_rfl) (by kernel_rfl) (eqFs_leaf (by decide) rfl Tryd.isAgg3 (eqK_int (d := 9997) Tryd.underlying3) (eqFs_leaf (by decide) rfl Tryd.isAgg9 (eqK_str (d := 9997) Tryd.underlying9) (eqFs_leaf (by decide) rfl Tryd.isAgg9 (eqK_str (d := 9997) Tryd.underlying9) (eqFs_struct (by decide) rfl Tryd.isAgg24 Tryd.sizeOf24 rfl eqD24_9998 (ks := [.int .i64, .bool]) rfl (eqFs_leaf (by decide) rfl Tryd.isAgg3 (eqK_int (d := 9997) Tryd.underlying3) (eqFs_leaf (by decide) rfl Tryd.isAgg4 (eqK_bool (d := 9997) Tryd.underlying4) eqFs_nil))))))
theorem eqD28_10000 : EqD Tryd.prog 10000 28 [.int .i64, .int .i64, .str, .str, .str, .str, .int .i64, .bool] :=
  eqD_struct (d := 9999) (fs := [⟨ "Kind", 3, 0, false, "", "", 0⟩, ⟨ "Ask", 26, 1, false, "", "", 8⟩]) (by kernel_rfl) (by kernel_rfl) (by kernel_rfl) (eqFs_leaf (by decide) rfl Tryd.isAgg3 (eqK_int (d := 9998) Tryd.underlying3) (eqFs_struct (by decide) rfl Tryd.isAgg26 Tryd.sizeOf26 rfl eqD26_9999 (ks := []) rfl eqFs_nil))
theorem eqOK28 : EqOK Tryd.prog 28 [.int .i64, .int .i64, .str, .str, .str, .str, .int .i64, .bool] := eqOK_of Tryd.eqGuardType28 eqD28_10000
noncomputable def tyL : List (Nat × TInfo) := [
  (3, { k := .int .i64, size := 1, bytes := 8, zero := .int .i64 0 }),
  (4, { k := .bool, size := 1, bytes := 1, zero := .bool false }),
  (5, { k := .int .u8, size := 1, bytes := 1, zero := .int .u8 0 }),
  (9, { k := .string, size := 1, bytes := 16, zero := .string ⟨#[]⟩ }),
  (22, { k := .slice 3, size := 1, bytes := 24, zero := .slice none 0 0, szs := [1] }),
  (24, { k := .struct [(0, 9), (1, 9)], size := 2, bytes := 32, zero := .agg #[.string ⟨#[]⟩, .string ⟨#[]⟩], eqs := some [.str, .str] }),
  (26, { k := .struct [(0, 3), (1, 9), (2, 9), (3, 24), (5, 3), (6, 4)], size := 7, bytes := 88, zero := .agg #[.int .i64 0, .string ⟨#[]⟩, .string ⟨#[]⟩, .string ⟨#[]⟩, .string ⟨#[]⟩, .int .i64 0, .bool false], eqs := some [.int .i64, .str, .str, .str, .str, .int .i64, .bool] }),
  (28, { k := .struct [(0, 3), (1, 26)], size := 8, bytes := 96, zero := .agg #[.int .i64 0, .int .i64 0, .string ⟨#[]⟩, .string ⟨#[]⟩, .string ⟨#[]⟩, .string ⟨#[]⟩, .int .i64 0, .bool false], eqs := some [.int .i64, .int .i64, .str, .str, .str, .str, .int .i64, .bool] }),
  (30, { k := .struct [(0, 3), (1, 3), (2, 3), (3, 22), (4, 28)], size := 12, bytes := 144, zero := .agg #[.int .i64 0, .int .i64 0, .int .i64 0, .slice none 0 0, .int .i64 0, .int .i64 0, .string ⟨#[]⟩, .string ⟨#[]⟩, .string ⟨#[]⟩, .string ⟨#[]⟩, .int .i64 0, .bool false], szs := [0, 0, 0, 1, 0, 0, 0, 0, 0, 0, 0, 0] }),
  (36, { k := .slice 30, size := 1, bytes := 24, zero := .slice none 0 0, szs := [12] }),
  (41, { k := .slice 9, size := 1, bytes := 24, zero := .slice none 0 0, szs := [1] }),
  (66, { k := .slice 5, size := 1, bytes := 24, zero := .slice none 0 0, szs := [1] }),
  (73, { k := .other, size := 1, bytes := 8, zero := .pointer none }),
  (75, { k := .struct [(0, 73), (1, 66)], size := 2, bytes := 32, zero := .agg #[.pointer none, .slice none 0 0], szs := [0, 1] }),
  (92, { k := .int .u64, size := 1, bytes := 8, zero := .int .u64 0 })]
noncomputable abbrev Ty := tyOf tyL
theorem tyOK : TyOK Tryd.prog Ty := tyOf_ok (by
  simp only [tyL, List.forall_mem_cons]
  refine ⟨⟨Tryd.underlying3, ⟨Tryd.t3, by kernel_rfl, rfl, rfl, rfl⟩, nofun⟩, ?_⟩
  refine ⟨⟨Tryd.underlying4, ⟨Tryd.t4, by kernel_rfl, rfl, rfl, rfl⟩, nofun⟩, ?_⟩
  refine ⟨⟨Tryd.underlying5, ⟨Tryd.t5, by kernel_rfl, rfl, rfl, rfl⟩, nofun⟩, ?_⟩
  refine ⟨⟨Tryd.underlying9, ⟨Tryd.t9, by kernel_rfl, rfl, rfl, rfl⟩, nofun⟩, ?_⟩
  refine ⟨⟨Tryd.underlying22, ⟨Tryd.t22, by kernel_rfl, rfl, rfl, rfl⟩, nofun⟩, ?_⟩
  refine ⟨⟨⟨_, Tryd.underlying24, rfl⟩, ⟨Tryd.t24, by kernel_rfl, rfl, rfl, rfl⟩, fun ks h => by cases h; exact eqOK24⟩, ?_⟩
  refine ⟨⟨⟨_, Tryd.underlying26, rfl⟩, ⟨Tryd.t26, by kernel_rfl, rfl, rfl, rfl⟩, fun ks h => by cases h; exact eqOK26⟩, ?_⟩
  refine ⟨⟨⟨_, Tryd.underlying28, rfl⟩, ⟨Tryd.t28, by kernel_rfl, rfl, rfl, rfl⟩, fun ks h => by cases h; exact eqOK28⟩, ?_⟩
  refine ⟨⟨⟨_, Tryd.underlying30, rfl⟩, ⟨Tryd.t30, by kernel_rfl, rfl, rfl, rfl⟩, nofun⟩, ?_⟩
  refine ⟨⟨Tryd.underlying36, ⟨Tryd.t36, by kernel_rfl, rfl, rfl, rfl⟩, nofun⟩, ?_⟩
  refine ⟨⟨Tryd.underlying41, ⟨Tryd.t41, by kernel_rfl, rfl, rfl, rfl⟩, nofun⟩, ?_⟩
  refine ⟨⟨Tryd.underlying66, ⟨Tryd.t66, by kernel_rfl, rfl, rfl, rfl⟩, nofun⟩, ?_⟩
  refine ⟨⟨⟨_, Tryd.underlying73, trivial⟩, ⟨Tryd.t73, by kernel_rfl, rfl, rfl, rfl⟩, nofun⟩, ?_⟩
  refine ⟨⟨⟨_, Tryd.underlying75, rfl⟩, ⟨Tryd.t75, by kernel_rfl, rfl, rfl, rfl⟩, nofun⟩, ?_⟩
  refine ⟨⟨Tryd.underlying92, ⟨Tryd.t92, by kernel_rfl, rfl, rfl, rfl⟩, nofun⟩, ?_⟩
  exact nofun)
def eN_u64 (n : Int) : List C := [.v (.int .u64 n)]
def eN_u8 (n : Int) : List C := [.v (.int .u8 n)]
def eBool (b : Bool) : List C := [bC b]
def eStr (s : ByteArray) : List C := [sC s]
def eInt (n : Int) : List C := [iC n]
structure Range where
  lo : ByteArray
  hi : ByteArray
instance : Inhabited Range := ⟨⟨⟨#[]⟩, ⟨#[]⟩⟩⟩
def eRange (x : Range) : List C := [sC x.lo, sC x.hi]
structure Ask where
  kind : Int
  key : ByteArray
  val : ByteArray
  range : Range
  most : Int
  back : Bool
instance : Inhabited Ask := ⟨⟨0, ⟨#[]⟩, ⟨#[]⟩, default, 0, false⟩⟩
def eAsk (x : Ask) : List C := [iC x.kind, sC x.key, sC x.val, sC x.range.lo, sC x.range.hi, iC x.most, bC x.back]
structure Call where
  kind : Int
  ask : Ask
instance : Inhabited Call := ⟨⟨0, default⟩⟩
def eCall (x : Call) : List C := [iC x.kind, iC x.ask.kind, sC x.ask.key, sC x.ask.val, sC x.ask.range.lo, sC x.ask.range.hi, iC x.ask.most, bC x.ask.back]
structure Step where
  kind : Int
  a : Int
  b : Int
  keep : List Int
  call : Call
instance : Inhabited Step := ⟨⟨0, 0, 0, [], default⟩⟩
def eStep (x : Step) : List C := [iC x.kind, iC x.a, iC x.b, lC 1 eInt x.keep, iC x.call.kind, iC x.call.ask.kind, sC x.call.ask.key, sC x.call.ask.val, sC x.call.ask.range.lo, sC x.call.ask.range.hi, iC x.call.ask.most, bC x.call.ask.back]
theorem cl_Str (s : ByteArray) : ∀ c ∈ eStr s, ∃ u, c = .v u := by simp [eStr, sC]
theorem cl_Int (n : Int) : ∀ c ∈ eInt n, ∃ u, c = .v u := by simp [eInt, iC]
theorem cl_Range (x : Range) : ∀ c ∈ eRange x, ∃ u, c = .v u := by simp [eRange, iC, sC, bC]
theorem cl_Ask (x : Ask) : ∀ c ∈ eAsk x, ∃ u, c = .v u := by simp [eAsk, iC, sC, bC]
theorem cl_Call (x : Call) : ∀ c ∈ eCall x, ∃ u, c = .v u := by simp [eCall, iC, sC, bC]


noncomputable abbrev Wk := W Tryd.prog Ty
end Go.Proofs.YtagoajkiccgmjaaDoor
namespace Go.Proofs.YtagoajkiccgmjaaDoor
open Go.Mv Go.RowKit
open Go.Shelf
def xlays156_ren : Go.Shelf.Ren := ⟨fun | 156 => 45 | 165 => 58 | 166 => 59 | 169 => 60 | 240 => 74 | 241 => 75 | 276 => 85 | 277 => 86 | n => n, fun | 31 => 41 | 9 => 9 | 3 => 3 | 4 => 4 | 0 => 0 | 20 => 20 | 72 => 75 | 76 => 79 | 70 => 73 | 37 => 66 | 75 => 78 | 127 => 90 | 164 => 93 | 5 => 5 | 80 => 81 | n => n, fun | n => n⟩
theorem xlays156 : Go.Proofs.Lays.n156 Tryd.prog xlays156_ren := {
  mixed := by kernel_rfl
  f156 := Tryd.func45.trans (congrArg some (by kernel_rfl))
  f165 := Tryd.func58.trans (congrArg some (by kernel_rfl))
  f166 := Tryd.func59.trans (congrArg some (by kernel_rfl))
  f169 := Tryd.func60.trans (congrArg some (by kernel_rfl))
  f240 := Tryd.func74.trans (congrArg some (by kernel_rfl))
  f241 := Tryd.func75.trans (congrArg some (by kernel_rfl))
  f276 := Tryd.func85.trans (congrArg some (by kernel_rfl))
  f277 := Tryd.func86.trans (congrArg some (by kernel_rfl))
  t0 := Tryd.underlying0
  a0 := Tryd.isAgg0
  z0 := Tryd.sizeOf0
  v0 := Tryd.zeroValue0
  t3 := Tryd.underlying3
  a3 := Tryd.isAgg3
  z3 := Tryd.sizeOf3
  v3 := Tryd.zeroValue3
  t4 := Tryd.underlying4
  a4 := Tryd.isAgg4
  z4 := Tryd.sizeOf4
  v4 := Tryd.zeroValue4
  t9 := Tryd.underlying9
  a9 := Tryd.isAgg9
  z9 := Tryd.sizeOf9
  v9 := Tryd.zeroValue9
  t20 := Tryd.underlying20
  a20 := Tryd.isAgg20
  z20 := Tryd.sizeOf20
  v20 := Tryd.zeroValue20
  t31 := Tryd.underlying41
  a31 := Tryd.isAgg41
  z31 := Tryd.sizeOf41
  v31 := Tryd.zeroValue41
  t37 := Tryd.underlying66
  a37 := Tryd.isAgg66
  z37 := Tryd.sizeOf66
  v37 := Tryd.zeroValue66
  t70 := Tryd.underlying73
  a70 := Tryd.isAgg73
  z70 := Tryd.sizeOf73
  v70 := Tryd.zeroValue73
  t72 := Tryd.underlying75
  a72 := Tryd.isAgg75
  z72 := Tryd.sizeOf75
  v72 := Tryd.zeroValue75
  t75 := Tryd.underlying78
  a75 := Tryd.isAgg78
  z75 := Tryd.sizeOf78
  v75 := Tryd.zeroValue78
  t76 := Tryd.underlying79
  a76 := Tryd.isAgg79
  z76 := Tryd.sizeOf79
  v76 := Tryd.zeroValue79
  t127 := Tryd.underlying90
  a127 := Tryd.isAgg90
  z127 := Tryd.sizeOf90
  v127 := Tryd.zeroValue90
  t164 := Tryd.underlying93
  a164 := Tryd.isAgg93
  z164 := Tryd.sizeOf93
  v164 := Tryd.zeroValue93 }
theorem xBuilder_Extra_156 : Builder.Extra Tryd.prog xlays156_ren := {
  sizeBuilder := by kernel_rfl
  liesBuilder := by kernel_rfl
  t5 := Tryd.underlying5
  a5 := Tryd.isAgg5
  z5 := Tryd.sizeOf5
  v5 := Tryd.zeroValue5
  infoByte := by kernel_rfl
  cellsByte := by kernel_rfl
  sizeByte := by kernel_rfl
  neB5 := by decide }
open Go.RowKit in
theorem xstrings_Join_none (a : Option Addr) (c : Nat) (sep : ByteArray) (w : World) :
    Calls Tryd.prog 45 #[.slice a 0 c, .string sep] w fun e w' => e = .returned (.string ⟨#[]⟩) ∧ w' = w := Any.strings_Join_none xlays156 xBuilder_Extra_156 a c sep w
open Go.RowKit in
theorem xstrings_Join (bk o c : Nat) (xs : List ByteArray) (sep : ByteArray) (w : World) (hcells : ∀ (j : Nat) x, xs[j]? = some x → w.cell? ⟨bk, o + j, none⟩ = some (.string x)) (hbk : bk < w.heap.size) (hN : xs.length ≤ 140737488355328) (hcap : xs.length ≤ c) (hlen : (Lib.join (xs.map (·.data.toList)) sep.data.toList).length ≤ 140737488355328) :
    Calls Tryd.prog 45 #[.slice (some ⟨bk, o, none⟩) xs.length c, .string sep] w fun e w' => e = .returned (.string ⟨(Lib.join (xs.map (·.data.toList)) sep.data.toList).toArray⟩) ∧ Below w.heap.size w w' := Any.strings_Join xlays156 xBuilder_Extra_156 bk o c xs sep w hcells hbk hN hcap hlen
noncomputable def st_Join (p0 : List ByteArray) (p1 : ByteArray) : Option ByteArray := if p0.length ≤ 140737488355328 ∧ (joinB p0 p1).size ≤ 140737488355328 then some (joinB p0 p1) else none
theorem k_st_Join (p0 : List ByteArray) (p1 : ByteArray) (v : ByteArray) (h : st_Join p0 p1 = some v) : CallOK Tryd.prog 45 [.one (.c (.sl 1 (p0.map eStr))), sV p1] (sV v) [] := by
  unfold st_Join at h
  split at h
  case isFalse => cases h
  case isTrue hc =>
  cases h
  exact join_call (fun a c sep w => xstrings_Join_none a c sep w) (fun bk o c xs sep w h1 h2 h3 h4 h5 => xstrings_Join bk o c xs sep w h1 h2 h3 h4 h5) p0 p1 hc.1 hc.2
def xlays221_ren : Go.Shelf.Ren := ⟨fun | 221 => 39 | 268 => 51 | 138 => 52 | 143 => 53 | 195 => 65 | 197 => 66 | 218 => 67 | 219 => 68 | 260 => 79 | 217 => 80 | 225 => 81 | 224 => 82 | 267 => 83 | 266 => 88 | 314 => 89 | n => n, fun | 9 => 9 | 3 => 3 | 31 => 41 | 4 => 4 | 0 => 0 | 105 => 86 | 21 => 21 | 5 => 5 | 46 => 92 | 119 => 96 | 139 => 99 | 138 => 98 | 146 => 101 | 51 => 100 | n => n, fun | 1 => 0 | 3 => 1 | 4 => 2 | n => n⟩
theorem xlays221 : Go.Proofs.Lays.n221 Tryd.prog xlays221_ren := {
  mixed := by kernel_rfl
  f138 := Tryd.func52.trans (congrArg some (by kernel_rfl))
  f143 := Tryd.func53.trans (congrArg some (by kernel_rfl))
  f195 := Tryd.func65.trans (congrArg some (by kernel_rfl))
  f197 := Tryd.func66.trans (congrArg some (by kernel_rfl))
  f217 := Tryd.func80.trans (congrArg some (by kernel_rfl))
  f218 := Tryd.func67.trans (congrArg some (by kernel_rfl))
  f219 := Tryd.func68.trans (congrArg some (by kernel_rfl))
  f221 := Tryd.func39.trans (congrArg some (by kernel_rfl))
  f224 := Tryd.func82.trans (congrArg some (by kernel_rfl))
  f225 := Tryd.func81.trans (congrArg some (by kernel_rfl))
  f260 := Tryd.func79.trans (congrArg some (by kernel_rfl))
  f266 := Tryd.func88.trans (congrArg some (by kernel_rfl))
  f267 := Tryd.func83.trans (congrArg some (by kernel_rfl))
  f268 := Tryd.func51.trans (congrArg some (by kernel_rfl))
  f314 := Tryd.func89.trans (congrArg some (by kernel_rfl))
  t0 := Tryd.underlying0
  a0 := Tryd.isAgg0
  z0 := Tryd.sizeOf0
  v0 := Tryd.zeroValue0
  t3 := Tryd.underlying3
  a3 := Tryd.isAgg3
  z3 := Tryd.sizeOf3
  v3 := Tryd.zeroValue3
  t4 := Tryd.underlying4
  a4 := Tryd.isAgg4
  z4 := Tryd.sizeOf4
  v4 := Tryd.zeroValue4
  t5 := Tryd.underlying5
  a5 := Tryd.isAgg5
  z5 := Tryd.sizeOf5
  v5 := Tryd.zeroValue5
  t9 := Tryd.underlying9
  a9 := Tryd.isAgg9
  z9 := Tryd.sizeOf9
  v9 := Tryd.zeroValue9
  t21 := Tryd.underlying21
  a21 := Tryd.isAgg21
  z21 := Tryd.sizeOf21
  v21 := Tryd.zeroValue21
  t31 := Tryd.underlying41
  a31 := Tryd.isAgg41
  z31 := Tryd.sizeOf41
  v31 := Tryd.zeroValue41
  t46 := Tryd.underlying92
  a46 := Tryd.isAgg92
  z46 := Tryd.sizeOf92
  v46 := Tryd.zeroValue92
  t51 := Tryd.underlying100
  a51 := Tryd.isAgg100
  z51 := Tryd.sizeOf100
  v51 := Tryd.zeroValue100
  t105 := Tryd.underlying86
  a105 := Tryd.isAgg86
  z105 := Tryd.sizeOf86
  v105 := Tryd.zeroValue86
  t119 := Tryd.underlying96
  a119 := Tryd.isAgg96
  z119 := Tryd.sizeOf96
  t138 := Tryd.underlying98
  a138 := Tryd.isAgg98
  z138 := Tryd.sizeOf98
  v138 := Tryd.zeroValue98
  t139 := Tryd.underlying99
  a139 := Tryd.isAgg99
  z139 := Tryd.sizeOf99
  v139 := Tryd.zeroValue99
  t146 := Tryd.underlying101
  a146 := Tryd.isAgg101
  z146 := Tryd.sizeOf101
  v146 := Tryd.zeroValue101
  g1 := by kernel_rfl
  g3 := by kernel_rfl
  g4 := by kernel_rfl }
open Go.RowKit Go.Lib in
noncomputable def st_genSplit (p0 p1 : ByteArray) (p2 p3 : Int) : Option (List ByteArray) := splitT p0 p1 p2 p3
theorem k_st_genSplit (p0 p1 : ByteArray) (p2 p3 : Int) (v : List ByteArray) (h : st_genSplit p0 p1 p2 p3 = some v) : CallOK Tryd.prog 39 [sV p0, sV p1, iV p2, iV p3] (.one (.c (.sl 1 (v.map eStr)))) [] :=
  split_call xlays221 (by kernel_rfl) p0 p1 p2 p3 v h
end Go.Proofs.YtagoajkiccgmjaaDoor
namespace Go.Proofs.YtagoajkiccgmjaaDoor
open Go.Mv Go.RowKit

structure Xs_l07Parts_1 where
  v5 : (List ByteArray)
  v6 : Int

structure Ss_l07Parts_1 where
  v5 : (List ByteArray)
  v6 : Int
  v7 : Int

structure Xs_l07Parts_2 where
  v5 : (List ByteArray)
  v6 : Int

noncomputable def Bs_l07Parts_1 (p0 : ByteArray) (p1 : Int) (s1 : Ss_l07Parts_1) : Wk (Ss_l07Parts_1 ⊕ Xs_l07Parts_1) :=
 .p 4 <|
 .ite (decide (s1.v7 < ((p0.size : Int))))
 (.eb <|
 .p 2 <|
 .chk ((0 ≤ s1.v7 ∧ s1.v7 < (p0.size : Int))) fun c1 =>
 .s (.q c1) <|
 .p 2 <|
 .jn false (ι := Xs_l07Parts_2) (fun j => ms 35 [(0, sV p0), (1, .one (.c (.v (.int .u8 p1)))), (5, .one (.so [] 5 0 (((j.v5).map eStr).length))), (6, iV j.v6), (7, iV s1.v7)] [(5, [lC 1 eStr j.v5])])
 (.ite (((byteAt p0 s1.v7) == p1))
 (.p 4 <|
 .chk ((0 ≤ (s1.v6 : Int) ∧ (s1.v6 : Int) ≤ s1.v7 ∧ s1.v7 ≤ (p0.size : Int))) fun c2 =>
 .s (.q c2) <|
 .p 1 <|
 .chk (((s1.v5).length + (([p0.extract (s1.v6 : Int).toNat s1.v7.toNat] : List ByteArray)).length) * 16 ≤ 140737488355328) fun c3 =>
 .s (.app eStr .lit c3) <|
 .p 4 <|
 .im (.ren 26 5 5) <|
 .ret ((⟨s1.v5 ++ ([p0.extract (s1.v6 : Int).toNat s1.v7.toNat] : List ByteArray), IntKind.wrap .i64 (s1.v7 + 1)⟩ : Xs_l07Parts_2)))
 (.ret ((⟨s1.v5, s1.v6⟩ : Xs_l07Parts_2)))) fun j1 =>
 .p 3 <|
 .ret (.inl ((⟨j1.v5, j1.v6, IntKind.wrap .i64 (s1.v7 + 1)⟩ : Ss_l07Parts_1))))
 (.ret (.inr ((⟨s1.v5, s1.v6⟩ : Xs_l07Parts_1))))

noncomputable def ws_l07Parts (p0 : ByteArray) (p1 : Int) : Wk ((List ByteArray)) :=
 .p 5 <|
 .jn true (ι := Xs_l07Parts_1) (fun j => ms 35 [(0, sV p0), (5, .one (.so [] 5 0 (((j.v5).map eStr).length))), (6, iV j.v6)] [(5, [lC 1 eStr j.v5])])
 (.eb <|
 .im (.ren 8 5 5) <|
 .loop (σ := Ss_l07Parts_1) (fun s1 => ms 35 [(0, sV p0), (1, .one (.c (.v (.int .u8 p1)))), (5, .one (.so [] 5 0 (((s1.v5).map eStr).length))), (6, iV s1.v6), (7, iV s1.v7)] [(5, [lC 1 eStr s1.v5])]) ((⟨[], 0, 0⟩ : Ss_l07Parts_1)) (Bs_l07Parts_1 p0 p1)) fun j2 =>
 .p 3 <|
 .chk ((0 ≤ (j2.v6 : Int) ∧ (j2.v6 : Int) ≤ (p0.size : Int) ∧ (p0.size : Int) ≤ (p0.size : Int))) fun c4 =>
 .s (.q c4) <|
 .p 1 <|
 .chk (((j2.v5).length + (([p0.extract (j2.v6 : Int).toNat ((p0.size : Int)).toNat] : List ByteArray)).length) * 16 ≤ 140737488355328) fun c5 =>
 .s (.app eStr .lit c5) <|
 .p 1 <|
 .im (.frz [] 34 0 4) <|
 .ret (j2.v5 ++ ([p0.extract (j2.v6 : Int).toNat ((p0.size : Int)).toNat] : List ByteArray))
/-- spec.l07Parts -/
noncomputable def s_l07Parts (p0 : ByteArray) (p1 : Int) : Option ((List ByteArray)) := (ws_l07Parts p0 p1).den
theorem k_s_l07Parts (p0 : ByteArray) (p1 : Int) (v : (List ByteArray)) (h : s_l07Parts p0 p1 = some v) : CallOK Tryd.prog 15 [sV p0, .one (.c (.v (.int .u8 p1)))] (lV 1 eStr v) [] :=
  (ws_l07Parts p0 p1).call tyOK Tryd.func15 rfl (res := (fun v : (List ByteArray) => lV 1 eStr v)) (row := (fun v : (List ByteArray) => [])) (by kernel_rfl) h

noncomputable def ws_l14Lines (p0 : ByteArray) : Wk ((List ByteArray)) :=
 .p 2 <|
 .bnd (s_l07Parts p0 10) fun r1 er1 =>
 .s (.call (k_s_l07Parts p0 10 r1 er1) Tryd.call15) <|
 .p 5 <|
 .bnd (getI r1 (IntKind.wrap .i64 ((((((r1).map eStr).length : Nat) : Int)) - 1))) fun x1 ex1 =>
 .s (.idx eStr ex1) <|
 .p 2 <|
 .jn false (ι := (List ByteArray)) (fun j => ms 19 [(3, lV 1 eStr j)] [])
 (.ite ((x1.toList == ((⟨#[]⟩ : ByteArray)).toList))
 (.p 4 <|
 .chk (0 ≤ (0 : Int) ∧ (0 : Int) ≤ (IntKind.wrap .i64 ((((((r1).map eStr).length : Nat) : Int)) - 1)) ∧ (IntKind.wrap .i64 ((((((r1).map eStr).length : Nat) : Int)) - 1)) ≤ ((r1).length : Int)) fun c1 =>
 .s (.cutr eStr r1 c1) <|
 .p 1 <|
 .ret ((((r1).take ((IntKind.wrap .i64 ((((((r1).map eStr).length : Nat) : Int)) - 1)).toNat)).drop 0)))
 (.ret r1)) fun j1 =>
 .p 2 <|
 .ret j1
/-- spec.l14Lines -/
noncomputable def s_l14Lines (p0 : ByteArray) : Option ((List ByteArray)) := (ws_l14Lines p0).den
theorem k_s_l14Lines (p0 : ByteArray) (v : (List ByteArray)) (h : s_l14Lines p0 = some v) : CallOK Tryd.prog 29 [sV p0] (lV 1 eStr v) [] :=
  (ws_l14Lines p0).call tyOK Tryd.func29 rfl (res := (fun v : (List ByteArray) => lV 1 eStr v)) (row := (fun v : (List ByteArray) => [])) (by kernel_rfl) h

noncomputable def ws_l14Quiet (p0 : ByteArray) : Wk (Bool) :=
 .p 1 <|
 .jn false (ι := Bool) (fun j => ms 10 [(2, bV j)] [])
 (.p 3 <|
 .cut 5 ((p0.toList == ((⟨#[]⟩ : ByteArray)).toList))
 (.p 5 <|
 .ret true)
 (.p 1 <|
 .chk ((0 ≤ (0 : Int) ∧ 0 < (p0.size : Int))) fun c1 =>
 .s (.q c1) <|
 .p 3 <|
 .ret (((byteAt p0 0) == 35)))) fun j1 =>
 .ret j1
/-- spec.l14Quiet -/
noncomputable def s_l14Quiet (p0 : ByteArray) : Option (Bool) := (ws_l14Quiet p0).den
theorem k_s_l14Quiet (p0 : ByteArray) (v : Bool) (h : s_l14Quiet p0 = some v) : CallOK Tryd.prog 30 [sV p0] (bV v) [] :=
  (ws_l14Quiet p0).call tyOK Tryd.func30 rfl (res := (fun v : Bool => bV v)) (row := (fun v : Bool => [])) (by kernel_rfl) h

noncomputable def ws_l14Words : Wk ((List ByteArray)) :=
 .p 3 <|
 .ret ([(⟨#[]⟩ : ByteArray), (⟨#[99, 97, 108, 108]⟩ : ByteArray), (⟨#[100, 101, 108, 105, 118, 101, 114]⟩ : ByteArray), (⟨#[108, 111, 115, 101]⟩ : ByteArray), (⟨#[100, 111, 117, 98, 108, 101]⟩ : ByteArray), (⟨#[116, 105, 99, 107]⟩ : ByteArray), (⟨#[100, 111, 119, 110]⟩ : ByteArray), (⟨#[116, 111, 114, 110]⟩ : ByteArray), (⟨#[117, 112]⟩ : ByteArray), (⟨#[99, 97, 108, 109]⟩ : ByteArray)])
/-- spec.l14Words -/
noncomputable def s_l14Words : Option ((List ByteArray)) := (ws_l14Words ).den
theorem k_s_l14Words (v : (List ByteArray)) (h : s_l14Words = some v) : CallOK Tryd.prog 16 [] (.one (.so [] 0 0 (((v).map eStr).length))) [lC 1 eStr v] :=
  (ws_l14Words ).call tyOK Tryd.func16 rfl (res := (fun v : (List ByteArray) => .one (.so [] 0 0 (((v).map eStr).length)))) (row := (fun v : (List ByteArray) => [lC 1 eStr v])) (by kernel_rfl) h

noncomputable def ws_l01Num (p0 : Int) : Wk (Bool) :=
 .p 1 <|
 .jn false (ι := Bool) (fun j => ms 9 [(2, bV j)] [])
 (.p 3 <|
 .cut 5 (decide (p0 ≥ 0))
 (.p 4 <|
 .ret (decide (p0 ≤ 1099511627775)))
 (.p 4 <|
 .ret false)) fun j1 =>
 .ret j1
/-- spec.l01Num -/
noncomputable def s_l01Num (p0 : Int) : Option (Bool) := (ws_l01Num p0).den
theorem k_s_l01Num (p0 : Int) (v : Bool) (h : s_l01Num p0 = some v) : CallOK Tryd.prog 36 [iV p0] (bV v) [] :=
  (ws_l01Num p0).call tyOK Tryd.func36 rfl (res := (fun v : Bool => bV v)) (row := (fun v : Bool => [])) (by kernel_rfl) h

noncomputable def ws_NumText (recF : Int → Option (ByteArray)) (hrec : ∀ (p0 : Int) (v : ByteArray), recF p0 = some v → CallOK Tryd.prog 37 [iV p0] (sV v) []) (p0 : Int) : Wk (ByteArray) :=
 .p 2 <|
 .bnd (s_l01Num p0) fun r1 er1 =>
 .s (.call (k_s_l01Num p0 r1 er1) Tryd.call36) <|
 .p 1 <|
 .ite (!r1)
 (.p 1 <|
 .ret ((⟨#[]⟩ : ByteArray)))
 (.p 2 <|
 .ite (decide (p0 < 10))
 (.p 6 <|
 .ret (byteB (IntKind.wrap .u8 (IntKind.wrap .i64 (48 + p0)))))
 (.bnd (recF (IntKind.wrap .i64 (Int.tdiv p0 10))) fun r2 er2 =>
 .chk ((r2.size + (byteB (IntKind.wrap .u8 (IntKind.wrap .i64 (48 + (Int.tmod p0 10))))).size ≤ 140737488355328)) fun c1 =>
 .drawn [] [(2, .call (hrec (IntKind.wrap .i64 (Int.tdiv p0 10)) r2 er2) Tryd.call37), (9, .q c1)] (ms 23 [(2, sV (r2 ++ (byteB (IntKind.wrap .u8 (IntKind.wrap .i64 (48 + (Int.tmod p0 10)))))))] []) <|
 .ret (r2 ++ (byteB (IntKind.wrap .u8 (IntKind.wrap .i64 (48 + (Int.tmod p0 10))))))))
/-- spec.NumText -/
theorem kF_s_NumText (recF : Int → Option (ByteArray)) (hrec : ∀ (p0 : Int) (v : ByteArray), recF p0 = some v → CallOK Tryd.prog 37 [iV p0] (sV v) []) (p0 : Int) (v : ByteArray) (h : (ws_NumText recF hrec p0).den = some v) : CallOK Tryd.prog 37 [iV p0] (sV v) [] :=
  (ws_NumText recF hrec p0).call tyOK Tryd.func37 rfl (res := (fun v : ByteArray => sV v)) (row := (fun v : ByteArray => [])) (by kernel_rfl) h
noncomputable def s_NumText_R : Nat → { recF : Int → Option (ByteArray) // ∀ (p0 : Int) (v : ByteArray), recF p0 = some v → CallOK Tryd.prog 37 [iV p0] (sV v) [] }
  | 0 => ⟨fun _ => none, fun _ _ h => nomatch h⟩
  | k + 1 => ⟨fun p0 => (ws_NumText (s_NumText_R k).1 (s_NumText_R k).2 p0).den, fun p0 v h => kF_s_NumText (s_NumText_R k).1 (s_NumText_R k).2 p0 v h⟩
noncomputable def s_NumText (p0 : Int) : Option (ByteArray) := lim fun k => (s_NumText_R k).1 p0
theorem k_s_NumText (p0 : Int) (v : ByteArray) (h : s_NumText p0 = some v) : CallOK Tryd.prog 37 [iV p0] (sV v) [] := by
  obtain ⟨k, hk⟩ := lim_e h
  exact (s_NumText_R k).2 p0 v hk

structure Ss_TextNum_1 where
  v4 : Int
  v5 : Int

noncomputable def Bs_TextNum_1 (p0 : ByteArray) (s1 : Ss_TextNum_1) : Wk (Ss_TextNum_1 ⊕ (Int ⊕ (Int × Bool))) :=
 .p 4 <|
 .ite (decide (s1.v5 < ((p0.size : Int))))
 (.eb <|
 .jn false (ι := Bool) (fun j => ms 48 [(0, sV p0), (4, iV s1.v4), (5, iV s1.v5), (29, bV j)] [])
 (.p 2 <|
 .chk ((0 ≤ s1.v5 ∧ s1.v5 < (p0.size : Int))) fun c1 =>
 .s (.q c1) <|
 .p 2 <|
 .cut 24 (decide ((byteAt p0 s1.v5) < 48))
 (.p 5 <|
 .ret true)
 (.p 2 <|
 .chk ((0 ≤ s1.v5 ∧ s1.v5 < (p0.size : Int))) fun c2 =>
 .s (.q c2) <|
 .p 2 <|
 .ret (decide ((byteAt p0 s1.v5) > 57)))) fun j2 =>
 .ite (j2)
 (.p 2 <|
 .ret (.inr (.inr ((0, false)))))
 (.p 4 <|
 .chk ((0 ≤ s1.v5 ∧ s1.v5 < (p0.size : Int))) fun c3 =>
 .s (.q c3) <|
 .p 7 <|
 .ret (.inl ((⟨IntKind.wrap .i64 ((IntKind.wrap .i64 (s1.v4 * 10)) + (IntKind.wrap .i64 (IntKind.wrap .u8 ((byteAt p0 s1.v5) - 48)))), IntKind.wrap .i64 (s1.v5 + 1)⟩ : Ss_TextNum_1)))))
 (.ret (.inr (.inl s1.v4)))

noncomputable def ws_TextNum (p0 : ByteArray) : Wk (Int × Bool) :=
 .p 2 <|
 .jn false (ι := Bool) (fun j => ms 48 [(0, sV p0), (13, bV j)] [])
 (.p 4 <|
 .cut 9 (decide (((p0.size : Int)) < 1))
 (.p 4 <|
 .ret true)
 (.p 4 <|
 .ret (decide (((p0.size : Int)) > 13)))) fun j1 =>
 .ite (j1)
 (.p 2 <|
 .ret ((0, false)))
 (.p 2 <|
 .join true (ι := Int) (fun j => ms 48 [(0, sV p0), (4, iV j)] [])
 (.eb <|
 .loop (σ := Ss_TextNum_1) (fun s1 => ms 48 [(0, sV p0), (4, iV s1.v4), (5, iV s1.v5)] []) ((⟨0, 0⟩ : Ss_TextNum_1)) (Bs_TextNum_1 p0)) fun j3 =>
 .jn false (ι := Bool) (fun j => ms 48 [(4, iV j3), (46, bV j)] [])
 (.p 1 <|
 .bnd (s_l01Num j3) fun r1 er1 =>
 .s (.call (k_s_l01Num j3 r1 er1) Tryd.call36) <|
 .p 2 <|
 .cut 41 (!r1)
 (.p 5 <|
 .ret true)
 (.p 1 <|
 .bnd (s_NumText j3) fun r2 er2 =>
 .s (.call (k_s_NumText j3 r2 er2) Tryd.call37) <|
 .p 3 <|
 .ret (!(r2.toList == p0.toList)))) fun j4 =>
 .ite (j4)
 (.p 2 <|
 .ret ((0, false)))
 (.p 3 <|
 .ret ((j3, true))))
/-- spec.TextNum -/
noncomputable def s_TextNum (p0 : ByteArray) : Option (Int × Bool) := (ws_TextNum p0).den
theorem k_s_TextNum (p0 : ByteArray) (v : Int × Bool) (h : s_TextNum p0 = some v) : CallOK Tryd.prog 34 [sV p0] (.tup [.one (.c (iC v.1)), .one (.c (bC v.2))]) [] :=
  (ws_TextNum p0).call tyOK Tryd.func34 rfl (res := (fun v : Int × Bool => .tup [.one (.c (iC v.1)), .one (.c (bC v.2))])) (row := (fun v : Int × Bool => [])) (by kernel_rfl) h

noncomputable def ws_l14Num (p0 : (List ByteArray)) (p1 : Int) : Wk (Int) :=
 .p 5 <|
 .ite (decide (p1 ≥ (((((p0).map eStr).length : Nat) : Int))))
 (.p 1 <|
 .ret 0)
 (.p 2 <|
 .bnd (getI p0 p1) fun x1 ex1 =>
 .s (.idx eStr ex1) <|
 .p 1 <|
 .bnd (s_TextNum x1) fun r1 er1 =>
 .s (.call (k_s_TextNum x1 r1 er1) Tryd.call34) <|
 .p 7 <|
 .ret r1.1)
/-- spec.l14Num -/
noncomputable def s_l14Num (p0 : (List ByteArray)) (p1 : Int) : Option (Int) := (ws_l14Num p0 p1).den
theorem k_s_l14Num (p0 : (List ByteArray)) (p1 : Int) (v : Int) (h : s_l14Num p0 p1 = some v) : CallOK Tryd.prog 17 [lV 1 eStr p0, iV p1] (iV v) [] :=
  (ws_l14Num p0 p1).call tyOK Tryd.func17 rfl (res := (fun v : Int => iV v)) (row := (fun v : Int => [])) (by kernel_rfl) h

noncomputable def ws_l01Digit (p0 : Int) : Wk (Int) :=
 .p 3 <|
 .ite (decide (p0 < 10))
 (.p 4 <|
 .ret (IntKind.wrap .u8 (IntKind.wrap .i64 (48 + p0))))
 (.p 5 <|
 .ret (IntKind.wrap .u8 (IntKind.wrap .i64 ((IntKind.wrap .i64 (65 + p0)) - 10))))
/-- spec.l01Digit -/
noncomputable def s_l01Digit (p0 : Int) : Option (Int) := (ws_l01Digit p0).den
theorem k_s_l01Digit (p0 : Int) (v : Int) (h : s_l01Digit p0 = some v) : CallOK Tryd.prog 64 [iV p0] (.one (.c (.v (.int .u8 v)))) [] :=
  (ws_l01Digit p0).call tyOK Tryd.func64 rfl (res := (fun v : Int => .one (.c (.v (.int .u8 v))))) (row := (fun v : Int => [])) (by kernel_rfl) h

noncomputable def Bs_l01Half_1 (p0 : Int) (s1 : Int) : Wk (Int ⊕ Int) :=
 .jn false (ι := Bool) (fun j => ms 15 [(0, .one (.c (.v (.int .u8 p0)))), (3, iV s1), (11, bV j)] [])
 (.p 3 <|
 .cut 6 (decide (s1 < 16))
 (.p 1 <|
 .bnd (s_l01Digit s1) fun r1 er1 =>
 .s (.call (k_s_l01Digit s1 r1 er1) Tryd.call64) <|
 .p 3 <|
 .ret ((r1 != p0)))
 (.p 5 <|
 .ret false)) fun j1 =>
 .ite (j1)
 (.eb <|
 .p 3 <|
 .ret (.inl (IntKind.wrap .i64 (s1 + 1))))
 (.ret (.inr s1))

noncomputable def ws_l01Half (p0 : Int) : Wk (Int) :=
 .p 2 <|
 .jn true (ι := Int) (fun j => ms 15 [(3, iV j)] [])
 (.eb <|
 .loop (σ := Int) (fun s1 => ms 15 [(0, .one (.c (.v (.int .u8 p0)))), (3, iV s1)] []) 0 (Bs_l01Half_1 p0)) fun j2 =>
 .p 2 <|
 .ret j2
/-- spec.l01Half -/
noncomputable def s_l01Half (p0 : Int) : Option (Int) := (ws_l01Half p0).den
theorem k_s_l01Half (p0 : Int) (v : Int) (h : s_l01Half p0 = some v) : CallOK Tryd.prog 62 [.one (.c (.v (.int .u8 p0)))] (iV v) [] :=
  (ws_l01Half p0).call tyOK Tryd.func62 rfl (res := (fun v : Int => iV v)) (row := (fun v : Int => [])) (by kernel_rfl) h

structure Ss_Quote_1 where
  v3 : (List Int)
  v4 : Int

noncomputable def Bs_Quote_1 (p0 : ByteArray) (s1 : Ss_Quote_1) : Wk (Ss_Quote_1 ⊕ (List Int)) :=
 .p 4 <|
 .ite (decide (s1.v4 < ((p0.size : Int))))
 (.eb <|
 .p 2 <|
 .chk ((0 ≤ s1.v4 ∧ s1.v4 < (p0.size : Int))) fun c1 =>
 .s (.q c1) <|
 .p 1 <|
 .jn false (ι := Bool) (fun j => ms 52 [(0, sV p0), (3, .one (.so [] 3 0 (((s1.v3).map eN_u8).length))), (4, iV s1.v4), (5, .one (.c (.v (.int .u8 (byteAt p0 s1.v4))))), (32, bV j)] [(3, [lC 1 eN_u8 s1.v3])])
 (.p 3 <|
 .cut 21 (decide ((byteAt p0 s1.v4) ≥ 33))
 (.p 4 <|
 .cut 25 (decide ((byteAt p0 s1.v4) ≤ 126))
 (.p 4 <|
 .cut 29 (((byteAt p0 s1.v4) != 34))
 (.p 3 <|
 .ret (((byteAt p0 s1.v4) != 37)))
 (.p 3 <|
 .ret false))
 (.p 7 <|
 .ret false))
 (.p 11 <|
 .ret false)) fun j1 =>
 .jn false (ι := (List Int)) (fun j => ms 52 [(0, sV p0), (3, .one (.so [] 3 0 (((j).map eN_u8).length))), (4, iV s1.v4)] [(3, [lC 1 eN_u8 j])])
 (.ite (j1)
 (.p 3 <|
 .chk (((s1.v3).length + (([byteAt p0 s1.v4] : List Int)).length) * 1 ≤ 140737488355328) fun c2 =>
 .s (.app eN_u8 .lit c2) <|
 .p 1 <|
 .im (.ren 36 3 3) <|
 .ret (s1.v3 ++ ([byteAt p0 s1.v4] : List Int)))
 (.p 4 <|
 .bnd (s_l01Digit (IntKind.wrap .i64 (Int.tdiv (IntKind.wrap .i64 (byteAt p0 s1.v4)) 16))) fun r1 er1 =>
 .s (.call (k_s_l01Digit (IntKind.wrap .i64 (Int.tdiv (IntKind.wrap .i64 (byteAt p0 s1.v4)) 16)) r1 er1) Tryd.call64) <|
 .p 3 <|
 .bnd (s_l01Digit (Int.tmod (IntKind.wrap .i64 (byteAt p0 s1.v4)) 16)) fun r2 er2 =>
 .s (.call (k_s_l01Digit (Int.tmod (IntKind.wrap .i64 (byteAt p0 s1.v4)) 16) r2 er2) Tryd.call64) <|
 .p 1 <|
 .chk (((s1.v3).length + (([37, r1, r2] : List Int)).length) * 1 ≤ 140737488355328) fun c3 =>
 .s (.app eN_u8 .lit c3) <|
 .p 1 <|
 .im (.ren 47 3 3) <|
 .ret (s1.v3 ++ ([37, r1, r2] : List Int)))) fun j2 =>
 .p 3 <|
 .ret (.inl ((⟨j2, IntKind.wrap .i64 (s1.v4 + 1)⟩ : Ss_Quote_1))))
 (.ret (.inr s1.v3))

noncomputable def ws_Quote (p0 : ByteArray) : Wk (ByteArray) :=
 .p 4 <|
 .ite (decide (((p0.size : Int)) > 4096))
 (.p 1 <|
 .ret ((⟨#[]⟩ : ByteArray)))
 (.p 3 <|
 .jn true (ι := (List Int)) (fun j => ms 52 [(3, .one (.so [] 3 0 (((j).map eN_u8).length)))] [(3, [lC 1 eN_u8 j])])
 (.eb <|
 .im (.ren 9 3 3) <|
 .loop (σ := Ss_Quote_1) (fun s1 => ms 52 [(0, sV p0), (3, .one (.so [] 3 0 (((s1.v3).map eN_u8).length))), (4, iV s1.v4)] [(3, [lC 1 eN_u8 s1.v3])]) ((⟨[34], 0⟩ : Ss_Quote_1)) (Bs_Quote_1 p0)) fun j3 =>
 .p 2 <|
 .chk (((j3).length + (([34] : List Int)).length) * 1 ≤ 140737488355328) fun c4 =>
 .s (.app eN_u8 .lit c4) <|
 .chk (∀ n ∈ (j3 ++ ([34] : List Int) : List Int), 0 ≤ n ∧ n < 256) fun c5 =>
 .s (.str c5) <|
 .p 1 <|
 .ret (strOfNums (j3 ++ ([34] : List Int))))
/-- spec.Quote -/
noncomputable def s_Quote (p0 : ByteArray) : Option (ByteArray) := (ws_Quote p0).den
theorem k_s_Quote (p0 : ByteArray) (v : ByteArray) (h : s_Quote p0 = some v) : CallOK Tryd.prog 50 [sV p0] (sV v) [] :=
  (ws_Quote p0).call tyOK Tryd.func50 rfl (res := (fun v : ByteArray => sV v)) (row := (fun v : ByteArray => [])) (by kernel_rfl) h

structure Ss_Unquote_1 where
  v4 : (List Int)
  v5 : Int

structure Xs_Unquote_4 where
  v4 : (List Int)
  v5 : Int

noncomputable def Bs_Unquote_1 (p0 : ByteArray) (s1 : Ss_Unquote_1) : Wk (Ss_Unquote_1 ⊕ (List Int)) :=
 .p 5 <|
 .ite (decide (s1.v5 < (IntKind.wrap .i64 (((p0.size : Int)) - 1))))
 (.eb <|
 .jn false (ι := Bool) (fun j => ms 66 [(0, sV p0), (4, .one (.so [] 4 0 (((s1.v4).map eN_u8).length))), (5, iV s1.v5), (32, bV j)] [(4, [lC 1 eN_u8 s1.v4])])
 (.p 2 <|
 .chk ((0 ≤ s1.v5 ∧ s1.v5 < (p0.size : Int))) fun c1 =>
 .s (.q c1) <|
 .p 2 <|
 .cut 26 (((byteAt p0 s1.v5) == 37))
 (.p 6 <|
 .ret (decide ((IntKind.wrap .i64 (s1.v5 + 2)) < ((p0.size : Int)))))
 (.p 6 <|
 .ret false)) fun j2 =>
 .jn false (ι := Xs_Unquote_4) (fun j => ms 66 [(0, sV p0), (4, .one (.so [] 4 0 (((j.v4).map eN_u8).length))), (5, iV j.v5)] [(4, [lC 1 eN_u8 j.v4])])
 (.ite (j2)
 (.chk ((0 ≤ (IntKind.wrap .i64 (s1.v5 + 1)) ∧ (IntKind.wrap .i64 (s1.v5 + 1)) < (p0.size : Int))) fun c2 =>
 .bnd (s_l01Half (byteAt p0 (IntKind.wrap .i64 (s1.v5 + 1)))) fun r1 er1 =>
 .chk ((0 ≤ (IntKind.wrap .i64 (s1.v5 + 2)) ∧ (IntKind.wrap .i64 (s1.v5 + 2)) < (p0.size : Int))) fun c3 =>
 .bnd (s_l01Half (byteAt p0 (IntKind.wrap .i64 (s1.v5 + 2)))) fun r2 er2 =>
 .chk (((s1.v4).length + (([IntKind.wrap .u8 (IntKind.wrap .i64 ((IntKind.wrap .i64 ((Int.tmod r1 16) * 16)) + (Int.tmod r2 16)))] : List Int)).length) * 1 ≤ 140737488355328) fun c4 =>
 .drawn [17] [(4, .q c2), (5, .call (k_s_l01Half (byteAt p0 (IntKind.wrap .i64 (s1.v5 + 1))) r1 er1) Tryd.call62), (11, .q c3), (12, .call (k_s_l01Half (byteAt p0 (IntKind.wrap .i64 (s1.v5 + 2))) r2 er2) Tryd.call62), (17, .app eN_u8 .lit c4)] (ms 66 [(0, sV p0), (4, .one (.so [] 50 0 (((s1.v4 ++ ([IntKind.wrap .u8 (IntKind.wrap .i64 ((IntKind.wrap .i64 ((Int.tmod r1 16) * 16)) + (Int.tmod r2 16)))] : List Int)).map eN_u8).length))), (5, iV s1.v5)] [(50, [lC 1 eN_u8 (s1.v4 ++ ([IntKind.wrap .u8 (IntKind.wrap .i64 ((IntKind.wrap .i64 ((Int.tmod r1 16) * 16)) + (Int.tmod r2 16)))] : List Int))])]) <|
 .p 3 <|
 .im (.ren 50 4 4) <|
 .ret ((⟨s1.v4 ++ ([IntKind.wrap .u8 (IntKind.wrap .i64 ((IntKind.wrap .i64 ((Int.tmod r1 16) * 16)) + (Int.tmod r2 16)))] : List Int), IntKind.wrap .i64 (s1.v5 + 2)⟩ : Xs_Unquote_4)))
 (.p 3 <|
 .chk ((0 ≤ s1.v5 ∧ s1.v5 < (p0.size : Int))) fun c5 =>
 .s (.q c5) <|
 .p 1 <|
 .chk (((s1.v4).length + (([byteAt p0 s1.v5] : List Int)).length) * 1 ≤ 140737488355328) fun c6 =>
 .s (.app eN_u8 .lit c6) <|
 .p 1 <|
 .im (.ren 58 4 4) <|
 .ret ((⟨s1.v4 ++ ([byteAt p0 s1.v5] : List Int), s1.v5⟩ : Xs_Unquote_4)))) fun j3 =>
 .p 3 <|
 .ret (.inl ((⟨j3.v4, IntKind.wrap .i64 (j3.v5 + 1)⟩ : Ss_Unquote_1))))
 (.ret (.inr s1.v4))

noncomputable def ws_Unquote (p0 : ByteArray) : Wk (ByteArray × Bool) :=
 .p 2 <|
 .jn false (ι := Bool) (fun j => ms 66 [(0, sV p0), (13, bV j)] [])
 (.p 4 <|
 .cut 9 (decide (((p0.size : Int)) < 2))
 (.p 4 <|
 .ret true)
 (.p 4 <|
 .ret (decide (((p0.size : Int)) > 12290)))) fun j1 =>
 .ite (j1)
 (.p 2 <|
 .ret (((⟨#[]⟩ : ByteArray), false)))
 (.p 3 <|
 .jn true (ι := (List Int)) (fun j => ms 66 [(0, sV p0), (4, .one (.so [] 4 0 (((j).map eN_u8).length)))] [(4, [lC 1 eN_u8 j])])
 (.eb <|
 .im (.ren 14 4 4) <|
 .loop (σ := Ss_Unquote_1) (fun s1 => ms 66 [(0, sV p0), (4, .one (.so [] 4 0 (((s1.v4).map eN_u8).length))), (5, iV s1.v5)] [(4, [lC 1 eN_u8 s1.v4])]) ((⟨[], 1⟩ : Ss_Unquote_1)) (Bs_Unquote_1 p0)) fun j4 =>
 .p 1 <|
 .chk (∀ n ∈ (j4 : List Int), 0 ≤ n ∧ n < 256) fun c7 =>
 .s (.str c7) <|
 .bnd (s_Quote (strOfNums j4)) fun r3 er3 =>
 .s (.call (k_s_Quote (strOfNums j4) r3 er3) Tryd.call50) <|
 .p 2 <|
 .ite (!(r3.toList == p0.toList))
 (.p 2 <|
 .ret (((⟨#[]⟩ : ByteArray), false)))
 (.p 1 <|
 .chk (∀ n ∈ (j4 : List Int), 0 ≤ n ∧ n < 256) fun c8 =>
 .s (.str c8) <|
 .p 2 <|
 .ret ((strOfNums j4, true))))
/-- spec.Unquote -/
noncomputable def s_Unquote (p0 : ByteArray) : Option (ByteArray × Bool) := (ws_Unquote p0).den
theorem k_s_Unquote (p0 : ByteArray) (v : ByteArray × Bool) (h : s_Unquote p0 = some v) : CallOK Tryd.prog 48 [sV p0] (.tup [.one (.c (sC v.1)), .one (.c (bC v.2))]) [] :=
  (ws_Unquote p0).call tyOK Tryd.func48 rfl (res := (fun v : ByteArray × Bool => .tup [.one (.c (sC v.1)), .one (.c (bC v.2))])) (row := (fun v : ByteArray × Bool => [])) (by kernel_rfl) h

noncomputable def ws_l14Text (p0 : (List ByteArray)) (p1 : Int) : Wk (ByteArray) :=
 .p 5 <|
 .ite (decide (p1 ≥ (((((p0).map eStr).length : Nat) : Int))))
 (.p 1 <|
 .ret ((⟨#[]⟩ : ByteArray)))
 (.p 2 <|
 .bnd (getI p0 p1) fun x1 ex1 =>
 .s (.idx eStr ex1) <|
 .p 1 <|
 .bnd (s_Unquote x1) fun r1 er1 =>
 .s (.call (k_s_Unquote x1 r1 er1) Tryd.call48) <|
 .p 7 <|
 .ret r1.1)
/-- spec.l14Text -/
noncomputable def s_l14Text (p0 : (List ByteArray)) (p1 : Int) : Option (ByteArray) := (ws_l14Text p0 p1).den
theorem k_s_l14Text (p0 : (List ByteArray)) (p1 : Int) (v : ByteArray) (h : s_l14Text p0 p1 = some v) : CallOK Tryd.prog 35 [lV 1 eStr p0, iV p1] (sV v) [] :=
  (ws_l14Text p0 p1).call tyOK Tryd.func35 rfl (res := (fun v : ByteArray => sV v)) (row := (fun v : ByteArray => [])) (by kernel_rfl) h

noncomputable def ws_l14ReadCall (p0 : (List ByteArray)) : Wk (Call) :=
 .p 4 <|
 .ite (((((((p0).map eStr).length : Nat) : Int)) == 0))
 (.p 2 <|
 .ret ((⟨0, (⟨0, (⟨#[]⟩ : ByteArray), (⟨#[]⟩ : ByteArray), (⟨(⟨#[]⟩ : ByteArray), (⟨#[]⟩ : ByteArray)⟩ : Range), 0, false⟩ : Ask)⟩ : Call)))
 (.p 1 <|
 .bnd (s_l14Text p0 1) fun r1 er1 =>
 .s (.call (k_s_l14Text p0 1 r1 er1) Tryd.call35) <|
 .p 2 <|
 .bnd (s_l14Text p0 2) fun r2 er2 =>
 .s (.call (k_s_l14Text p0 2 r2 er2) Tryd.call35) <|
 .p 2 <|
 .bnd (getI p0 0) fun x1 ex1 =>
 .s (.idx eStr ex1) <|
 .p 1 <|
 .eb <|
 .p 2 <|
 .ite ((x1.toList == ((⟨#[98, 101, 103, 105, 110]⟩ : ByteArray)).toList))
 (.p 2 <|
 .ret ((⟨1, (⟨0, (⟨#[]⟩ : ByteArray), (⟨#[]⟩ : ByteArray), (⟨(⟨#[]⟩ : ByteArray), (⟨#[]⟩ : ByteArray)⟩ : Range), 0, false⟩ : Ask)⟩ : Call)))
 (.p 2 <|
 .ite ((x1.toList == ((⟨#[99, 111, 109, 109, 105, 116]⟩ : ByteArray)).toList))
 (.p 2 <|
 .ret ((⟨3, (⟨0, (⟨#[]⟩ : ByteArray), (⟨#[]⟩ : ByteArray), (⟨(⟨#[]⟩ : ByteArray), (⟨#[]⟩ : ByteArray)⟩ : Range), 0, false⟩ : Ask)⟩ : Call)))
 (.p 2 <|
 .ite ((x1.toList == ((⟨#[97, 98, 111, 114, 116]⟩ : ByteArray)).toList))
 (.p 2 <|
 .ret ((⟨4, (⟨0, (⟨#[]⟩ : ByteArray), (⟨#[]⟩ : ByteArray), (⟨(⟨#[]⟩ : ByteArray), (⟨#[]⟩ : ByteArray)⟩ : Range), 0, false⟩ : Ask)⟩ : Call)))
 (.p 2 <|
 .ite ((x1.toList == ((⟨#[103, 101, 116]⟩ : ByteArray)).toList))
 (.p 4 <|
 .ret ((⟨2, (⟨1, r1, (⟨#[]⟩ : ByteArray), (⟨(⟨#[]⟩ : ByteArray), (⟨#[]⟩ : ByteArray)⟩ : Range), 0, false⟩ : Ask)⟩ : Call)))
 (.p 2 <|
 .ite ((x1.toList == ((⟨#[112, 117, 116]⟩ : ByteArray)).toList))
 (.p 5 <|
 .ret ((⟨2, (⟨2, r1, r2, (⟨(⟨#[]⟩ : ByteArray), (⟨#[]⟩ : ByteArray)⟩ : Range), 0, false⟩ : Ask)⟩ : Call)))
 (.p 2 <|
 .ite ((x1.toList == ((⟨#[100, 101, 108]⟩ : ByteArray)).toList))
 (.p 4 <|
 .ret ((⟨2, (⟨3, r1, (⟨#[]⟩ : ByteArray), (⟨(⟨#[]⟩ : ByteArray), (⟨#[]⟩ : ByteArray)⟩ : Range), 0, false⟩ : Ask)⟩ : Call)))
 (.p 2 <|
 .jn false (ι := Bool) (fun j => ms 56 [(0, lV 1 eStr p0), (2, pV 2), (3, sV r1), (4, sV r2), (41, bV j)] [(2, [.bx [iC 0, iC 0, sC ((⟨#[]⟩ : ByteArray)), sC ((⟨#[]⟩ : ByteArray)), sC ((⟨#[]⟩ : ByteArray)), sC ((⟨#[]⟩ : ByteArray)), iC 0, bC false]])])
 (.ite ((x1.toList == ((⟨#[115, 99, 97, 110]⟩ : ByteArray)).toList))
 (.ret ((x1.toList == ((⟨#[115, 99, 97, 110]⟩ : ByteArray)).toList)))
 (.p 2 <|
 .ret ((x1.toList == ((⟨#[98, 97, 99, 107]⟩ : ByteArray)).toList)))) fun j1 =>
 .ite (j1)
 (.bnd (s_l14Num p0 3) fun r3 er3 =>
 .bnd (getI p0 0) fun x2 ex2 =>
 .drawn [11] [(4, .call (k_s_l14Num p0 3 r3 er3) Tryd.call17), (6, .idx eStr ex2)] (ms 56 [(2, pV 2)] [(2, [.bx [iC 2, iC 4, sC ((⟨#[]⟩ : ByteArray)), sC ((⟨#[]⟩ : ByteArray)), sC r1, sC r2, iC r3, bC ((x2.toList == ((⟨#[98, 97, 99, 107]⟩ : ByteArray)).toList))]])]) <|
 .ret ((⟨2, (⟨4, (⟨#[]⟩ : ByteArray), (⟨#[]⟩ : ByteArray), (⟨r1, r2⟩ : Range), r3, (x2.toList == ((⟨#[98, 97, 99, 107]⟩ : ByteArray)).toList)⟩ : Ask)⟩ : Call)))
 (.p 2 <|
 .ret ((⟨0, (⟨0, (⟨#[]⟩ : ByteArray), (⟨#[]⟩ : ByteArray), (⟨(⟨#[]⟩ : ByteArray), (⟨#[]⟩ : ByteArray)⟩ : Range), 0, false⟩ : Ask)⟩ : Call))))))))))
/-- spec.l14ReadCall -/
noncomputable def s_l14ReadCall (p0 : (List ByteArray)) : Option (Call) := (ws_l14ReadCall p0).den
theorem k_s_l14ReadCall (p0 : (List ByteArray)) (v : Call) (h : s_l14ReadCall p0 = some v) : CallOK Tryd.prog 18 [lV 1 eStr p0] (.agg [.c (iC v.kind), .c (iC v.ask.kind), .c (sC v.ask.key), .c (sC v.ask.val), .c (sC v.ask.range.lo), .c (sC v.ask.range.hi), .c (iC v.ask.most), .c (bC v.ask.back)]) [] :=
  (ws_l14ReadCall p0).call tyOK Tryd.func18 rfl (res := (fun v : Call => .agg [.c (iC v.kind), .c (iC v.ask.kind), .c (sC v.ask.key), .c (sC v.ask.val), .c (sC v.ask.range.lo), .c (sC v.ask.range.hi), .c (iC v.ask.most), .c (bC v.ask.back)])) (row := (fun v : Call => [])) (by kernel_rfl) h

noncomputable def ws_RangeOk (p0 : Range) : Wk (Bool) :=
 .p 2 <|
 .jn false (ι := Bool) (fun j => ms 23 [(1, pV 1), (12, bV j)] [(1, [.bx [sC p0.lo, sC p0.hi]])])
 (.p 5 <|
 .cut 7 (decide (((p0.lo.size : Int)) > 17))
 (.p 5 <|
 .ret true)
 (.p 5 <|
 .ret (decide (((p0.hi.size : Int)) > 17)))) fun j1 =>
 .ite (j1)
 (.p 1 <|
 .ret false)
 (.jn false (ι := Bool) (fun j => ms 23 [(2, bV j)] [])
 (.p 4 <|
 .cut 16 ((p0.hi.toList == ((⟨#[]⟩ : ByteArray)).toList))
 (.p 7 <|
 .ret true)
 (.p 7 <|
 .ret (Op.bytesLess p0.lo.toList p0.hi.toList))) fun j2 =>
 .ret j2)
/-- spec.RangeOk -/
noncomputable def s_RangeOk (p0 : Range) : Option (Bool) := (ws_RangeOk p0).den
theorem k_s_RangeOk (p0 : Range) (v : Bool) (h : s_RangeOk p0 = some v) : CallOK Tryd.prog 87 [.agg [.c (sC p0.lo), .c (sC p0.hi)]] (bV v) [] :=
  (ws_RangeOk p0).call tyOK Tryd.func87 rfl (res := (fun v : Bool => bV v)) (row := (fun v : Bool => [])) (by kernel_rfl) h

noncomputable def ws_ReachOk (p0 : Range) : Wk (Bool) :=
 .p 2 <|
 .jn false (ι := Bool) (fun j => ms 17 [(2, bV j)] [])
 (.p 1 <|
 .bnd (s_RangeOk p0) fun r1 er1 =>
 .s (.call (k_s_RangeOk p0 r1 er1) Tryd.call87) <|
 .p 1 <|
 .cut 5 (r1)
 (.p 6 <|
 .cut 11 (decide (((p0.lo.size : Int)) ≤ 9))
 (.p 6 <|
 .ret (decide (((p0.hi.size : Int)) ≤ 9)))
 (.p 6 <|
 .ret false))
 (.p 12 <|
 .ret false)) fun j1 =>
 .ret j1
/-- spec.ReachOk -/
noncomputable def s_ReachOk (p0 : Range) : Option (Bool) := (ws_ReachOk p0).den
theorem k_s_ReachOk (p0 : Range) (v : Bool) (h : s_ReachOk p0 = some v) : CallOK Tryd.prog 76 [.agg [.c (sC p0.lo), .c (sC p0.hi)]] (bV v) [] :=
  (ws_ReachOk p0).call tyOK Tryd.func76 rfl (res := (fun v : Bool => bV v)) (row := (fun v : Bool => [])) (by kernel_rfl) h

noncomputable def ws_UserOk (p0 : ByteArray) : Wk (Bool) :=
 .p 1 <|
 .jn false (ι := Bool) (fun j => ms 11 [(2, bV j)] [])
 (.p 4 <|
 .cut 6 (decide (((p0.size : Int)) ≥ 1))
 (.p 5 <|
 .ret (decide (((p0.size : Int)) ≤ 8)))
 (.p 5 <|
 .ret false)) fun j1 =>
 .ret j1
/-- spec.UserOk -/
noncomputable def s_UserOk (p0 : ByteArray) : Option (Bool) := (ws_UserOk p0).den
theorem k_s_UserOk (p0 : ByteArray) (v : Bool) (h : s_UserOk p0 = some v) : CallOK Tryd.prog 77 [sV p0] (bV v) [] :=
  (ws_UserOk p0).call tyOK Tryd.func77 rfl (res := (fun v : Bool => bV v)) (row := (fun v : Bool => [])) (by kernel_rfl) h

noncomputable def ws_UvalOk (p0 : ByteArray) : Wk (Bool) :=
 .p 5 <|
 .ret (decide (((p0.size : Int)) ≤ 20))
/-- spec.UvalOk -/
noncomputable def s_UvalOk (p0 : ByteArray) : Option (Bool) := (ws_UvalOk p0).den
theorem k_s_UvalOk (p0 : ByteArray) (v : Bool) (h : s_UvalOk p0 = some v) : CallOK Tryd.prog 78 [sV p0] (bV v) [] :=
  (ws_UvalOk p0).call tyOK Tryd.func78 rfl (res := (fun v : Bool => bV v)) (row := (fun v : Bool => [])) (by kernel_rfl) h


end Go.Proofs.YtagoajkiccgmjaaDoor
namespace Go.Proofs.YtagoajkiccgmjaaDoor
open Go.Mv Go.RowKit

noncomputable def ws_AskOk (p0 : Ask) : Wk (Bool) :=
 .p 8 <|
 .ite ((p0.kind == 4))
 (.jn false (ι := Bool) (fun j => ms 73 [(2, bV j)] [])
 (.p 4 <|
 .cut 11 ((p0.key.toList == ((⟨#[]⟩ : ByteArray)).toList))
 (.p 5 <|
 .cut 16 ((p0.val.toList == ((⟨#[]⟩ : ByteArray)).toList))
 (.p 2 <|
 .bnd (s_ReachOk p0.range) fun r1 er1 =>
 .s (.call (k_s_ReachOk p0.range r1 er1) Tryd.call76) <|
 .p 2 <|
 .cut 21 (r1)
 (.p 5 <|
 .cut 26 (decide (p0.most ≥ 1))
 (.p 5 <|
 .ret (decide (p0.most ≤ 8)))
 (.p 5 <|
 .ret false))
 (.p 10 <|
 .ret false))
 (.p 15 <|
 .ret false))
 (.p 20 <|
 .ret false)) fun j1 =>
 .ret j1)
 (.jn false (ι := Bool) (fun j => ms 73 [(1, pV 1), (3, pV 3), (38, bV j)] [(1, [.bx [iC p0.kind, sC p0.key, sC p0.val, sC p0.range.lo, sC p0.range.hi, iC p0.most, bC p0.back]]), (3, [.bx [sC ((⟨#[]⟩ : ByteArray)), sC ((⟨#[]⟩ : ByteArray))]])])
 (.p 4 <|
 .cut 34 ((p0.kind != 2))
 (.p 4 <|
 .ret (!(p0.val.toList == ((⟨#[]⟩ : ByteArray)).toList)))
 (.p 4 <|
 .ret false)) fun j2 =>
 .ite (j2)
 (.p 1 <|
 .ret false)
 (.jn false (ι := Bool) (fun j => ms 73 [(2, bV j)] [])
 (.p 4 <|
 .cut 42 (decide (p0.kind ≥ 1))
 (.p 5 <|
 .cut 47 (decide (p0.kind ≤ 3))
 (.p 2 <|
 .bnd (s_UserOk p0.key) fun r1 er1 =>
 .s (.call (k_s_UserOk p0.key r1 er1) Tryd.call77) <|
 .p 2 <|
 .cut 52 (r1)
 (.p 2 <|
 .bnd (s_UvalOk p0.val) fun r2 er2 =>
 .s (.call (k_s_UvalOk p0.val r2 er2) Tryd.call78) <|
 .p 2 <|
 .cut 57 (r2)
 (.p 6 <|
 .cut 63 (((p0.range.lo.toList == ((⟨#[]⟩ : ByteArray)).toList) && ((p0.range.hi.toList == ((⟨#[]⟩ : ByteArray)).toList) && true)))
 (.p 5 <|
 .cut 68 ((p0.most == 0))
 (.p 5 <|
 .ret (!p0.back))
 (.p 5 <|
 .ret false))
 (.p 10 <|
 .ret false))
 (.p 16 <|
 .ret false))
 (.p 21 <|
 .ret false))
 (.p 26 <|
 .ret false))
 (.p 31 <|
 .ret false)) fun j3 =>
 .ret j3))
/-- spec.AskOk -/
noncomputable def s_AskOk (p0 : Ask) : Option (Bool) := (ws_AskOk p0).den
theorem k_s_AskOk (p0 : Ask) (v : Bool) (h : s_AskOk p0 = some v) : CallOK Tryd.prog 63 [.agg [.c (iC p0.kind), .c (sC p0.key), .c (sC p0.val), .c (sC p0.range.lo), .c (sC p0.range.hi), .c (iC p0.most), .c (bC p0.back)]] (bV v) [] :=
  (ws_AskOk p0).call tyOK Tryd.func63 rfl (res := (fun v : Bool => bV v)) (row := (fun v : Bool => [])) (by kernel_rfl) h

noncomputable def ws_CallOk (p0 : Call) : Wk (Bool) :=
 .p 8 <|
 .ite ((p0.kind == 2))
 (.p 2 <|
 .bnd (s_AskOk p0.ask) fun r1 er1 =>
 .s (.call (k_s_AskOk p0.ask r1 er1) Tryd.call63) <|
 .p 1 <|
 .ret r1)
 (.jn false (ι := Bool) (fun j => ms 25 [(2, bV j)] [])
 (.p 4 <|
 .cut 14 (decide (p0.kind ≥ 1))
 (.p 5 <|
 .cut 19 (decide (p0.kind ≤ 4))
 (.p 6 <|
 .ret (((p0.ask.kind == 0) && ((p0.ask.key.toList == ((⟨#[]⟩ : ByteArray)).toList) && ((p0.ask.val.toList == ((⟨#[]⟩ : ByteArray)).toList) && ((p0.ask.range.lo.toList == ((⟨#[]⟩ : ByteArray)).toList) && ((p0.ask.range.hi.toList == ((⟨#[]⟩ : ByteArray)).toList) && ((p0.ask.most == 0) && ((p0.ask.back == false) && true)))))))))
 (.p 6 <|
 .ret false))
 (.p 11 <|
 .ret false)) fun j1 =>
 .ret j1)
/-- spec.CallOk -/
noncomputable def s_CallOk (p0 : Call) : Option (Bool) := (ws_CallOk p0).den
theorem k_s_CallOk (p0 : Call) (v : Bool) (h : s_CallOk p0 = some v) : CallOK Tryd.prog 49 [.agg [.c (iC p0.kind), .c (iC p0.ask.kind), .c (sC p0.ask.key), .c (sC p0.ask.val), .c (sC p0.ask.range.lo), .c (sC p0.ask.range.hi), .c (iC p0.ask.most), .c (bC p0.ask.back)]] (bV v) [] :=
  (ws_CallOk p0).call tyOK Tryd.func49 rfl (res := (fun v : Bool => bV v)) (row := (fun v : Bool => [])) (by kernel_rfl) h

noncomputable def ws_l14Call (p0 : Call) : Wk (ByteArray) :=
 .p 3 <|
 .bnd (s_CallOk p0) fun r1 er1 =>
 .s (.call (k_s_CallOk p0 r1 er1) Tryd.call49) <|
 .p 1 <|
 .ite (!r1)
 (.p 1 <|
 .ret ((⟨#[]⟩ : ByteArray)))
 (.p 2 <|
 .eb <|
 .p 2 <|
 .ite ((p0.kind == 1))
 (.p 1 <|
 .ret ((⟨#[98, 101, 103, 105, 110]⟩ : ByteArray)))
 (.p 2 <|
 .ite ((p0.kind == 3))
 (.p 1 <|
 .ret ((⟨#[99, 111, 109, 109, 105, 116]⟩ : ByteArray)))
 (.p 2 <|
 .ite ((p0.kind == 4))
 (.p 1 <|
 .ret ((⟨#[97, 98, 111, 114, 116]⟩ : ByteArray)))
 (.p 6 <|
 .eb <|
 .p 2 <|
 .ite ((p0.ask.kind == 1))
 (.p 2 <|
 .bnd (s_Quote p0.ask.key) fun r2 er2 =>
 .s (.call (k_s_Quote p0.ask.key r2 er2) Tryd.call50) <|
 .chk ((((⟨#[103, 101, 116, 32]⟩ : ByteArray)).size + r2.size ≤ 140737488355328)) fun c1 =>
 .s (.q c1) <|
 .p 1 <|
 .ret (((⟨#[103, 101, 116, 32]⟩ : ByteArray)) ++ r2))
 (.p 2 <|
 .ite ((p0.ask.kind == 2))
 (.bnd (s_Quote p0.ask.key) fun r3 er3 =>
 .chk ((((⟨#[112, 117, 116, 32]⟩ : ByteArray)).size + r3.size ≤ 140737488355328)) fun c2 =>
 .chk (((((⟨#[112, 117, 116, 32]⟩ : ByteArray)) ++ r3).size + ((⟨#[32]⟩ : ByteArray)).size ≤ 140737488355328)) fun c3 =>
 .bnd (s_Quote p0.ask.val) fun r4 er4 =>
 .chk ((((((⟨#[112, 117, 116, 32]⟩ : ByteArray)) ++ r3) ++ ((⟨#[32]⟩ : ByteArray))).size + r4.size ≤ 140737488355328)) fun c4 =>
 .drawn [] [(2, .call (k_s_Quote p0.ask.key r3 er3) Tryd.call50), (3, .q c2), (4, .q c3), (7, .call (k_s_Quote p0.ask.val r4 er4) Tryd.call50), (8, .q c4)] (ms 62 [(2, sV (((((⟨#[112, 117, 116, 32]⟩ : ByteArray)) ++ r3) ++ ((⟨#[32]⟩ : ByteArray))) ++ r4))] []) <|
 .ret (((((⟨#[112, 117, 116, 32]⟩ : ByteArray)) ++ r3) ++ ((⟨#[32]⟩ : ByteArray))) ++ r4))
 (.p 2 <|
 .ite ((p0.ask.kind == 3))
 (.p 2 <|
 .bnd (s_Quote p0.ask.key) fun r5 er5 =>
 .s (.call (k_s_Quote p0.ask.key r5 er5) Tryd.call50) <|
 .chk ((((⟨#[100, 101, 108, 32]⟩ : ByteArray)).size + r5.size ≤ 140737488355328)) fun c5 =>
 .s (.q c5) <|
 .p 1 <|
 .ret (((⟨#[100, 101, 108, 32]⟩ : ByteArray)) ++ r5))
 (.p 3 <|
 .jn false (ι := ByteArray) (fun j => ms 62 [(3, pV 3), (4, sV j)] [(3, [.bx [iC p0.ask.kind, sC p0.ask.key, sC p0.ask.val, sC p0.ask.range.lo, sC p0.ask.range.hi, iC p0.ask.most, bC p0.ask.back]])])
 (.ite (p0.ask.back)
 (.p 1 <|
 .ret ((⟨#[98, 97, 99, 107, 32]⟩ : ByteArray)))
 (.ret ((⟨#[115, 99, 97, 110, 32]⟩ : ByteArray)))) fun j1 =>
 .bnd (s_Quote p0.ask.range.lo) fun r6 er6 =>
 .chk ((j1.size + r6.size ≤ 140737488355328)) fun c6 =>
 .chk (((j1 ++ r6).size + ((⟨#[32]⟩ : ByteArray)).size ≤ 140737488355328)) fun c7 =>
 .bnd (s_Quote p0.ask.range.hi) fun r7 er7 =>
 .chk ((((j1 ++ r6) ++ ((⟨#[32]⟩ : ByteArray))).size + r7.size ≤ 140737488355328)) fun c8 =>
 .chk (((((j1 ++ r6) ++ ((⟨#[32]⟩ : ByteArray))) ++ r7).size + ((⟨#[32]⟩ : ByteArray)).size ≤ 140737488355328)) fun c9 =>
 .bnd (s_NumText p0.ask.most) fun r8 er8 =>
 .chk ((((((j1 ++ r6) ++ ((⟨#[32]⟩ : ByteArray))) ++ r7) ++ ((⟨#[32]⟩ : ByteArray))).size + r8.size ≤ 140737488355328)) fun c10 =>
 .drawn [] [(4, .call (k_s_Quote p0.ask.range.lo r6 er6) Tryd.call50), (5, .q c6), (6, .q c7), (10, .call (k_s_Quote p0.ask.range.hi r7 er7) Tryd.call50), (11, .q c8), (12, .q c9), (15, .call (k_s_NumText p0.ask.most r8 er8) Tryd.call37), (16, .q c10)] (ms 62 [(2, sV (((((j1 ++ r6) ++ ((⟨#[32]⟩ : ByteArray))) ++ r7) ++ ((⟨#[32]⟩ : ByteArray))) ++ r8))] []) <|
 .ret (((((j1 ++ r6) ++ ((⟨#[32]⟩ : ByteArray))) ++ r7) ++ ((⟨#[32]⟩ : ByteArray))) ++ r8))))))))
/-- spec.l14Call -/
noncomputable def s_l14Call (p0 : Call) : Option (ByteArray) := (ws_l14Call p0).den
theorem k_s_l14Call (p0 : Call) (v : ByteArray) (h : s_l14Call p0 = some v) : CallOK Tryd.prog 38 [.agg [.c (iC p0.kind), .c (iC p0.ask.kind), .c (sC p0.ask.key), .c (sC p0.ask.val), .c (sC p0.ask.range.lo), .c (sC p0.ask.range.hi), .c (iC p0.ask.most), .c (bC p0.ask.back)]] (sV v) [] :=
  (ws_l14Call p0).call tyOK Tryd.func38 rfl (res := (fun v : ByteArray => sV v)) (row := (fun v : ByteArray => [])) (by kernel_rfl) h

structure Ss_StepText_1 where
  v4 : ByteArray
  v97 : Int

noncomputable def Bs_StepText_1 (p0 : Step) (s1 : Ss_StepText_1) : Wk (Ss_StepText_1 ⊕ (ByteArray ⊕ (ByteArray))) :=
 .p 1 <|
 .ite (decide (s1.v97 < (((((p0.keep).map eInt).length : Nat) : Int))))
 (.eb <|
 .bnd (getI p0.keep s1.v97) fun x2 ex2 =>
 .s (.idx eInt ex2) <|
 .p 3 <|
 .bnd (s_l01Num x2) fun r6 er6 =>
 .s (.call (k_s_l01Num x2 r6 er6) Tryd.call36) <|
 .p 1 <|
 .ite (!r6)
 (.p 1 <|
 .ret (.inr (.inr ((⟨#[]⟩ : ByteArray)))))
 (.p 1 <|
 .chk ((s1.v4.size + ((⟨#[32]⟩ : ByteArray)).size ≤ 140737488355328)) fun c5 =>
 .s (.q c5) <|
 .p 1 <|
 .bnd (s_NumText x2) fun r7 er7 =>
 .s (.call (k_s_NumText x2 r7 er7) Tryd.call37) <|
 .chk (((s1.v4 ++ ((⟨#[32]⟩ : ByteArray))).size + r7.size ≤ 140737488355328)) fun c6 =>
 .s (.q c6) <|
 .p 3 <|
 .ret (.inl ((⟨(s1.v4 ++ ((⟨#[32]⟩ : ByteArray))) ++ r7, IntKind.wrap .i64 (s1.v97 + 1)⟩ : Ss_StepText_1)))))
 (.ret (.inr (.inl s1.v4)))

noncomputable def ws_StepText (p0 : Step) : Wk (ByteArray) :=
 .p 5 <|
 .jn false (ι := Bool) (fun j => ms 123 [(1, pV 1), (3, pV 3), (28, bV j)] [(1, [.bx [iC p0.kind, iC p0.a, iC p0.b, .fz (lC 1 eInt p0.keep), iC p0.call.kind, iC p0.call.ask.kind, sC p0.call.ask.key, sC p0.call.ask.val, sC p0.call.ask.range.lo, sC p0.call.ask.range.hi, iC p0.call.ask.most, bC p0.call.ask.back]]), (3, [.bx [iC 0, sC ((⟨#[]⟩ : ByteArray)), sC ((⟨#[]⟩ : ByteArray)), sC ((⟨#[]⟩ : ByteArray)), sC ((⟨#[]⟩ : ByteArray)), iC 0, bC false]])])
 (.p 4 <|
 .cut 12 (decide (p0.kind < 1))
 (.p 16 <|
 .ret true)
 (.p 5 <|
 .cut 17 (decide (p0.kind > 9))
 (.p 11 <|
 .ret true)
 (.p 2 <|
 .bnd (s_l01Num p0.a) fun r1 er1 =>
 .s (.call (k_s_l01Num p0.a r1 er1) Tryd.call36) <|
 .p 3 <|
 .cut 23 (!r1)
 (.p 5 <|
 .ret true)
 (.p 2 <|
 .bnd (s_l01Num p0.b) fun r2 er2 =>
 .s (.call (k_s_l01Num p0.b r2 er2) Tryd.call36) <|
 .p 2 <|
 .ret (!r2))))) fun j1 =>
 .ite (j1)
 (.p 1 <|
 .ret ((⟨#[]⟩ : ByteArray)))
 (.jn false (ι := Bool) (fun j => ms 123 [(1, pV 1), (70, bV j)] [(1, [.bx [iC p0.kind, iC p0.a, iC p0.b, .fz (lC 1 eInt p0.keep), iC p0.call.kind, iC p0.call.ask.kind, sC p0.call.ask.key, sC p0.call.ask.val, sC p0.call.ask.range.lo, sC p0.call.ask.range.hi, iC p0.call.ask.most, bC p0.call.ask.back]])])
 (.p 4 <|
 .cut 32 ((p0.kind != 1))
 (.p 5 <|
 .cut 37 ((p0.call.kind != 0))
 (.p 33 <|
 .ret true)
 (.p 8 <|
 .cut 45 (!((p0.call.ask.kind == 0) && ((p0.call.ask.key.toList == ((⟨#[]⟩ : ByteArray)).toList) && ((p0.call.ask.val.toList == ((⟨#[]⟩ : ByteArray)).toList) && ((p0.call.ask.range.lo.toList == ((⟨#[]⟩ : ByteArray)).toList) && ((p0.call.ask.range.hi.toList == ((⟨#[]⟩ : ByteArray)).toList) && ((p0.call.ask.most == 0) && ((p0.call.ask.back == false) && true))))))))
 (.p 25 <|
 .ret true)
 (.p 4 <|
 .cut 49 ((p0.kind != 7))
 (.p 4 <|
 .cut 53 ((p0.b != 0))
 (.p 17 <|
 .ret true)
 (.p 8 <|
 .cut 61 (decide ((((((p0.keep).map eInt).length : Nat) : Int)) > 0))
 (.p 9 <|
 .ret true)
 (.p 4 <|
 .cut 65 ((p0.kind == 5))
 (.p 5 <|
 .ret ((p0.a != 0)))
 (.p 5 <|
 .ret false))))
 (.p 16 <|
 .cut 65 ((p0.kind == 5))
 (.p 5 <|
 .ret ((p0.a != 0)))
 (.p 5 <|
 .ret false)))))
 (.p 17 <|
 .cut 49 ((p0.kind != 7))
 (.p 4 <|
 .cut 53 ((p0.b != 0))
 (.p 17 <|
 .ret true)
 (.p 8 <|
 .cut 61 (decide ((((((p0.keep).map eInt).length : Nat) : Int)) > 0))
 (.p 9 <|
 .ret true)
 (.p 4 <|
 .cut 65 ((p0.kind == 5))
 (.p 5 <|
 .ret ((p0.a != 0)))
 (.p 5 <|
 .ret false))))
 (.p 16 <|
 .cut 65 ((p0.kind == 5))
 (.p 5 <|
 .ret ((p0.a != 0)))
 (.p 5 <|
 .ret false)))) fun j2 =>
 .ite (j2)
 (.p 1 <|
 .ret ((⟨#[]⟩ : ByteArray)))
 (.bnd (s_l14Words) fun r3 er3 =>
 .bnd (getI r3 p0.kind) fun x1 ex1 =>
 .drawn [] [(0, .call (k_s_l14Words r3 er3) Tryd.call16), (3, .ixo eStr ex1), (4, .ld eStr (getI_e ex1).2)] (ms 123 [(1, pV 1), (4, sV x1)] [(1, [.bx [iC p0.kind, iC p0.a, iC p0.b, .fz (lC 1 eInt p0.keep), iC p0.call.kind, iC p0.call.ask.kind, sC p0.call.ask.key, sC p0.call.ask.val, sC p0.call.ask.range.lo, sC p0.call.ask.range.hi, iC p0.call.ask.most, bC p0.call.ask.back]])]) <|
 .p 3 <|
 .jn false (ι := ByteArray) (fun j => ms 123 [(1, pV 1), (4, sV j)] [(1, [.bx [iC p0.kind, iC p0.a, iC p0.b, .fz (lC 1 eInt p0.keep), iC p0.call.kind, iC p0.call.ask.kind, sC p0.call.ask.key, sC p0.call.ask.val, sC p0.call.ask.range.lo, sC p0.call.ask.range.hi, iC p0.call.ask.most, bC p0.call.ask.back]])])
 (.ite ((p0.kind != 5))
 (.p 1 <|
 .chk ((x1.size + ((⟨#[32]⟩ : ByteArray)).size ≤ 140737488355328)) fun c1 =>
 .s (.q c1) <|
 .p 2 <|
 .bnd (s_NumText p0.a) fun r4 er4 =>
 .s (.call (k_s_NumText p0.a r4 er4) Tryd.call37) <|
 .chk (((x1 ++ ((⟨#[32]⟩ : ByteArray))).size + r4.size ≤ 140737488355328)) fun c2 =>
 .s (.q c2) <|
 .p 1 <|
 .ret ((x1 ++ ((⟨#[32]⟩ : ByteArray))) ++ r4))
 (.ret x1)) fun j3 =>
 .p 3 <|
 .jn false (ι := ByteArray) (fun j => ms 123 [(1, pV 1), (4, sV j)] [(1, [.bx [iC p0.kind, iC p0.a, iC p0.b, .fz (lC 1 eInt p0.keep), iC p0.call.kind, iC p0.call.ask.kind, sC p0.call.ask.key, sC p0.call.ask.val, sC p0.call.ask.range.lo, sC p0.call.ask.range.hi, iC p0.call.ask.most, bC p0.call.ask.back]])])
 (.ite ((p0.kind == 7))
 (.p 1 <|
 .chk ((j3.size + ((⟨#[32]⟩ : ByteArray)).size ≤ 140737488355328)) fun c3 =>
 .s (.q c3) <|
 .p 2 <|
 .bnd (s_NumText p0.b) fun r5 er5 =>
 .s (.call (k_s_NumText p0.b r5 er5) Tryd.call37) <|
 .chk (((j3 ++ ((⟨#[32]⟩ : ByteArray))).size + r5.size ≤ 140737488355328)) fun c4 =>
 .s (.q c4) <|
 .p 1 <|
 .ret ((j3 ++ ((⟨#[32]⟩ : ByteArray))) ++ r5))
 (.ret j3)) fun j4 =>
 .p 4 <|
 .join true (ι := ByteArray) (fun j => ms 123 [(1, pV 1), (4, sV j)] [(1, [.bx [iC p0.kind, iC p0.a, iC p0.b, .fz (lC 1 eInt p0.keep), iC p0.call.kind, iC p0.call.ask.kind, sC p0.call.ask.key, sC p0.call.ask.val, sC p0.call.ask.range.lo, sC p0.call.ask.range.hi, iC p0.call.ask.most, bC p0.call.ask.back]])])
 (.eb <|
 .loop (σ := Ss_StepText_1) (fun s1 => ms 123 [(1, pV 1), (4, sV s1.v4), (95, lV 1 eInt p0.keep), (96, iV (((((p0.keep).map eInt).length : Nat) : Int))), (97, iV s1.v97)] [(1, [.bx [iC p0.kind, iC p0.a, iC p0.b, .fz (lC 1 eInt p0.keep), iC p0.call.kind, iC p0.call.ask.kind, sC p0.call.ask.key, sC p0.call.ask.val, sC p0.call.ask.range.lo, sC p0.call.ask.range.hi, iC p0.call.ask.most, bC p0.call.ask.back]])]) ((⟨j4, 0⟩ : Ss_StepText_1)) (Bs_StepText_1 p0)) fun j5 =>
 .p 3 <|
 .join false (ι := ByteArray) (fun j => ms 123 [(4, sV j)] [])
 (.ite ((p0.kind == 1))
 (.p 2 <|
 .bnd (s_l14Call p0.call) fun r8 er8 =>
 .s (.call (k_s_l14Call p0.call r8 er8) Tryd.call38) <|
 .p 3 <|
 .ite ((r8.toList == ((⟨#[]⟩ : ByteArray)).toList))
 (.p 1 <|
 .ret (.inr ((⟨#[]⟩ : ByteArray))))
 (.p 1 <|
 .chk ((j5.size + ((⟨#[32]⟩ : ByteArray)).size ≤ 140737488355328)) fun c7 =>
 .s (.q c7) <|
 .p 1 <|
 .chk (((j5 ++ ((⟨#[32]⟩ : ByteArray))).size + r8.size ≤ 140737488355328)) fun c8 =>
 .s (.q c8) <|
 .p 1 <|
 .ret (.inl ((j5 ++ ((⟨#[32]⟩ : ByteArray))) ++ r8))))
 (.ret (.inl j5))) fun j6 =>
 .p 2 <|
 .ret j6))
/-- spec.StepText -/
noncomputable def s_StepText (p0 : Step) : Option (ByteArray) := (ws_StepText p0).den
theorem k_s_StepText (p0 : Step) (v : ByteArray) (h : s_StepText p0 = some v) : CallOK Tryd.prog 19 [.agg [.c (iC p0.kind), .c (iC p0.a), .c (iC p0.b), .c (lC 1 eInt p0.keep), .c (iC p0.call.kind), .c (iC p0.call.ask.kind), .c (sC p0.call.ask.key), .c (sC p0.call.ask.val), .c (sC p0.call.ask.range.lo), .c (sC p0.call.ask.range.hi), .c (iC p0.call.ask.most), .c (bC p0.call.ask.back)]] (sV v) [] :=
  (ws_StepText p0).call tyOK Tryd.func19 rfl (res := (fun v : ByteArray => sV v)) (row := (fun v : ByteArray => [])) (by kernel_rfl) h

structure Ss_TextStep_1 where
  v14 : Int
  w4_0_0 : Int

noncomputable def Bs_TextStep_1 (p0 : ByteArray) (r1 : (List ByteArray)) (r2 : (List ByteArray)) (s1 : Ss_TextStep_1) : Wk (Ss_TextStep_1 ⊕ Int) :=
 .p 1 <|
 .ite (decide (s1.v14 < (((((r2).map eStr).length : Nat) : Int))))
 (.eb <|
 .p 1 <|
 .bnd (getI r2 s1.v14) fun x1 ex1 =>
 .s (.ixo eStr ex1) <|
 .s (.ld eStr (getI_e ex1).2) <|
 .p 2 <|
 .jn false (ι := Bool) (fun j => ms 76 [(0, sV p0), (2, pV 2), (4, pV 4), (5, lV 1 eStr r1), (6, iV s1.v14), (12, .one (.so [] 12 0 (((r2).map eStr).length))), (13, iV (((((r2).map eStr).length : Nat) : Int))), (14, iV s1.v14), (27, bV j)] [(2, [.bx [iC 0, iC 0, iC 0, .sl 1 ([]), iC 0, iC 0, sC ((⟨#[]⟩ : ByteArray)), sC ((⟨#[]⟩ : ByteArray)), sC ((⟨#[]⟩ : ByteArray)), sC ((⟨#[]⟩ : ByteArray)), iC 0, bC false]]), (4, [.bx [iC s1.w4_0_0, iC 0, iC 0, .sl 1 ([]), iC 0, iC 0, sC ((⟨#[]⟩ : ByteArray)), sC ((⟨#[]⟩ : ByteArray)), sC ((⟨#[]⟩ : ByteArray)), sC ((⟨#[]⟩ : ByteArray)), iC 0, bC false]]), (12, [lC 1 eStr r2])])
 (.p 3 <|
 .cut 21 (decide (s1.v14 > 0))
 (.p 2 <|
 .bnd (getI r1 0) fun x2 ex2 =>
 .s (.idx eStr ex2) <|
 .p 3 <|
 .ret ((x1.toList == x2.toList)))
 (.p 6 <|
 .ret false)) fun j1 =>
 .jn false (ι := Int) (fun j => ms 76 [(0, sV p0), (2, pV 2), (4, pV 4), (5, lV 1 eStr r1), (12, .one (.so [] 12 0 (((r2).map eStr).length))), (13, iV (((((r2).map eStr).length : Nat) : Int))), (14, iV s1.v14)] [(2, [.bx [iC 0, iC 0, iC 0, .sl 1 ([]), iC 0, iC 0, sC ((⟨#[]⟩ : ByteArray)), sC ((⟨#[]⟩ : ByteArray)), sC ((⟨#[]⟩ : ByteArray)), sC ((⟨#[]⟩ : ByteArray)), iC 0, bC false]]), (4, [.bx [iC j, iC 0, iC 0, .sl 1 ([]), iC 0, iC 0, sC ((⟨#[]⟩ : ByteArray)), sC ((⟨#[]⟩ : ByteArray)), sC ((⟨#[]⟩ : ByteArray)), sC ((⟨#[]⟩ : ByteArray)), iC 0, bC false]]), (12, [lC 1 eStr r2])])
 (.ite (j1)
 (.p 3 <|
 .ret s1.v14)
 (.ret s1.w4_0_0)) fun j2 =>
 .p 2 <|
 .ret (.inl ((⟨IntKind.wrap .i64 (s1.v14 + 1), j2⟩ : Ss_TextStep_1))))
 (.ret (.inr s1.w4_0_0))

structure Xs_TextStep_5 where
  w4_0_4 : Int
  w4_0_5 : Int
  w4_0_6 : ByteArray
  w4_0_7 : ByteArray
  w4_0_8 : ByteArray
  w4_0_9 : ByteArray
  w4_0_10 : Int
  w4_0_11 : Bool

structure Xs_TextStep_6 where
  w4_0_2 : Int
  w4_0_3 : (List Int)

structure Ss_TextStep_2 where
  v8 : Int
  w4_0_3 : (List Int)

noncomputable def Bs_TextStep_2 (p0 : ByteArray) (r1 : (List ByteArray)) (j3 : Int) (r3 : Int) (j5 : Xs_TextStep_5) (r5 : Int) (s2 : Ss_TextStep_2) : Wk (Ss_TextStep_2 ⊕ (List Int)) :=
 .p 4 <|
 .ite (decide (s2.v8 < (((((r1).map eStr).length : Nat) : Int))))
 (.eb <|
 .bnd (s_l14Num r1 s2.v8) fun r6 er6 =>
 .chk (((s2.w4_0_3).length + (([r6] : List Int)).length) * 8 ≤ 140737488355328) fun c2 =>
 .drawn [6, 8] [(4, .call (k_s_l14Num r1 s2.v8 r6 er6) Tryd.call17), (6, .app eInt .lit c2), (8, .o)] (ms 76 [(0, sV p0), (2, pV 2), (4, pV 4), (5, lV 1 eStr r1), (8, iV s2.v8)] [(2, [.bx [iC 0, iC 0, iC 0, .sl 1 ([]), iC 0, iC 0, sC ((⟨#[]⟩ : ByteArray)), sC ((⟨#[]⟩ : ByteArray)), sC ((⟨#[]⟩ : ByteArray)), sC ((⟨#[]⟩ : ByteArray)), iC 0, bC false]]), (4, [.bx [iC j3, iC r3, iC r5, lC 1 eInt (s2.w4_0_3 ++ ([r6] : List Int)), iC j5.w4_0_4, iC j5.w4_0_5, sC j5.w4_0_6, sC j5.w4_0_7, sC j5.w4_0_8, sC j5.w4_0_9, iC j5.w4_0_10, bC j5.w4_0_11]])]) <|
 .p 3 <|
 .ret (.inl ((⟨IntKind.wrap .i64 (s2.v8 + 1), s2.w4_0_3 ++ ([r6] : List Int)⟩ : Ss_TextStep_2))))
 (.ret (.inr s2.w4_0_3))

noncomputable def ws_TextStep (p0 : ByteArray) : Wk (Step × Bool) :=
 .p 6 <|
 .bnd (s_l07Parts p0 32) fun r1 er1 =>
 .s (.call (k_s_l07Parts p0 32 r1 er1) Tryd.call15) <|
 .p 1 <|
 .bnd (s_l14Words) fun r2 er2 =>
 .s (.call (k_s_l14Words r2 er2) Tryd.call16) <|
 .p 2 <|
 .jn true (ι := Int) (fun j => ms 76 [(0, sV p0), (2, pV 2), (4, pV 4), (5, lV 1 eStr r1)] [(2, [.bx [iC 0, iC 0, iC 0, .sl 1 ([]), iC 0, iC 0, sC ((⟨#[]⟩ : ByteArray)), sC ((⟨#[]⟩ : ByteArray)), sC ((⟨#[]⟩ : ByteArray)), sC ((⟨#[]⟩ : ByteArray)), iC 0, bC false]]), (4, [.bx [iC j, iC 0, iC 0, .sl 1 ([]), iC 0, iC 0, sC ((⟨#[]⟩ : ByteArray)), sC ((⟨#[]⟩ : ByteArray)), sC ((⟨#[]⟩ : ByteArray)), sC ((⟨#[]⟩ : ByteArray)), iC 0, bC false]])])
 (.eb <|
 .loop (σ := Ss_TextStep_1) (fun s1 => ms 76 [(0, sV p0), (2, pV 2), (4, pV 4), (5, lV 1 eStr r1), (12, .one (.so [] 12 0 (((r2).map eStr).length))), (13, iV (((((r2).map eStr).length : Nat) : Int))), (14, iV s1.v14)] [(2, [.bx [iC 0, iC 0, iC 0, .sl 1 ([]), iC 0, iC 0, sC ((⟨#[]⟩ : ByteArray)), sC ((⟨#[]⟩ : ByteArray)), sC ((⟨#[]⟩ : ByteArray)), sC ((⟨#[]⟩ : ByteArray)), iC 0, bC false]]), (4, [.bx [iC s1.w4_0_0, iC 0, iC 0, .sl 1 ([]), iC 0, iC 0, sC ((⟨#[]⟩ : ByteArray)), sC ((⟨#[]⟩ : ByteArray)), sC ((⟨#[]⟩ : ByteArray)), sC ((⟨#[]⟩ : ByteArray)), iC 0, bC false]]), (12, [lC 1 eStr r2])]) ((⟨0, 0⟩ : Ss_TextStep_1)) (Bs_TextStep_1 p0 r1 r2)) fun j3 =>
 .p 1 <|
 .bnd (s_l14Num r1 1) fun r3 er3 =>
 .s (.call (k_s_l14Num r1 1 r3 er3) Tryd.call17) <|
 .p 2 <|
 .jn false (ι := Bool) (fun j => ms 76 [(0, sV p0), (2, pV 2), (4, pV 4), (5, lV 1 eStr r1), (41, bV j)] [(2, [.bx [iC 0, iC 0, iC 0, .sl 1 ([]), iC 0, iC 0, sC ((⟨#[]⟩ : ByteArray)), sC ((⟨#[]⟩ : ByteArray)), sC ((⟨#[]⟩ : ByteArray)), sC ((⟨#[]⟩ : ByteArray)), iC 0, bC false]]), (4, [.bx [iC j3, iC r3, iC 0, .sl 1 ([]), iC 0, iC 0, sC ((⟨#[]⟩ : ByteArray)), sC ((⟨#[]⟩ : ByteArray)), sC ((⟨#[]⟩ : ByteArray)), sC ((⟨#[]⟩ : ByteArray)), iC 0, bC false]])])
 (.p 4 <|
 .cut 37 ((j3 == 1))
 (.p 4 <|
 .ret (decide ((((((r1).map eStr).length : Nat) : Int)) > 2)))
 (.p 4 <|
 .ret false)) fun j4 =>
 .jn false (ι := Xs_TextStep_5) (fun j => ms 76 [(0, sV p0), (2, pV 2), (4, pV 4), (5, lV 1 eStr r1)] [(2, [.bx [iC 0, iC 0, iC 0, .sl 1 ([]), iC 0, iC 0, sC ((⟨#[]⟩ : ByteArray)), sC ((⟨#[]⟩ : ByteArray)), sC ((⟨#[]⟩ : ByteArray)), sC ((⟨#[]⟩ : ByteArray)), iC 0, bC false]]), (4, [.bx [iC j3, iC r3, iC 0, .sl 1 ([]), iC j.w4_0_4, iC j.w4_0_5, sC j.w4_0_6, sC j.w4_0_7, sC j.w4_0_8, sC j.w4_0_9, iC j.w4_0_10, bC j.w4_0_11]])])
 (.ite (j4)
 (.p 1 <|
 .chk (0 ≤ (2 : Int) ∧ (2 : Int) ≤ ((((r1).map eStr).length : Int)) ∧ ((((r1).map eStr).length : Int)) ≤ ((r1).length : Int)) fun c1 =>
 .s (.cutr eStr r1 c1) <|
 .bnd (s_l14ReadCall ((((r1).take (((((r1).map eStr).length : Int)).toNat)).drop 2))) fun r4 er4 =>
 .s (.call (k_s_l14ReadCall ((((r1).take (((((r1).map eStr).length : Int)).toNat)).drop 2)) r4 er4) Tryd.call18) <|
 .p 2 <|
 .ret ((⟨r4.kind, r4.ask.kind, r4.ask.key, r4.ask.val, r4.ask.range.lo, r4.ask.range.hi, r4.ask.most, r4.ask.back⟩ : Xs_TextStep_5)))
 (.ret ((⟨0, 0, (⟨#[]⟩ : ByteArray), (⟨#[]⟩ : ByteArray), (⟨#[]⟩ : ByteArray), (⟨#[]⟩ : ByteArray), 0, false⟩ : Xs_TextStep_5)))) fun j5 =>
 .p 3 <|
 .jn false (ι := Xs_TextStep_6) (fun j => ms 76 [(0, sV p0), (2, pV 2), (4, pV 4)] [(2, [.bx [iC 0, iC 0, iC 0, .sl 1 ([]), iC 0, iC 0, sC ((⟨#[]⟩ : ByteArray)), sC ((⟨#[]⟩ : ByteArray)), sC ((⟨#[]⟩ : ByteArray)), sC ((⟨#[]⟩ : ByteArray)), iC 0, bC false]]), (4, [.bx [iC j3, iC r3, iC j.w4_0_2, lC 1 eInt j.w4_0_3, iC j5.w4_0_4, iC j5.w4_0_5, sC j5.w4_0_6, sC j5.w4_0_7, sC j5.w4_0_8, sC j5.w4_0_9, iC j5.w4_0_10, bC j5.w4_0_11]])])
 (.ite ((j3 == 7))
 (.p 1 <|
 .bnd (s_l14Num r1 2) fun r5 er5 =>
 .s (.call (k_s_l14Num r1 2 r5 er5) Tryd.call17) <|
 .p 3 <|
 .jn true (ι := (List Int)) (fun j => ms 76 [(0, sV p0), (2, pV 2), (4, pV 4)] [(2, [.bx [iC 0, iC 0, iC 0, .sl 1 ([]), iC 0, iC 0, sC ((⟨#[]⟩ : ByteArray)), sC ((⟨#[]⟩ : ByteArray)), sC ((⟨#[]⟩ : ByteArray)), sC ((⟨#[]⟩ : ByteArray)), iC 0, bC false]]), (4, [.bx [iC j3, iC r3, iC r5, lC 1 eInt j, iC j5.w4_0_4, iC j5.w4_0_5, sC j5.w4_0_6, sC j5.w4_0_7, sC j5.w4_0_8, sC j5.w4_0_9, iC j5.w4_0_10, bC j5.w4_0_11]])])
 (.eb <|
 .loop (σ := Ss_TextStep_2) (fun s2 => ms 76 [(0, sV p0), (2, pV 2), (4, pV 4), (5, lV 1 eStr r1), (8, iV s2.v8)] [(2, [.bx [iC 0, iC 0, iC 0, .sl 1 ([]), iC 0, iC 0, sC ((⟨#[]⟩ : ByteArray)), sC ((⟨#[]⟩ : ByteArray)), sC ((⟨#[]⟩ : ByteArray)), sC ((⟨#[]⟩ : ByteArray)), iC 0, bC false]]), (4, [.bx [iC j3, iC r3, iC r5, lC 1 eInt s2.w4_0_3, iC j5.w4_0_4, iC j5.w4_0_5, sC j5.w4_0_6, sC j5.w4_0_7, sC j5.w4_0_8, sC j5.w4_0_9, iC j5.w4_0_10, bC j5.w4_0_11]])]) ((⟨3, ([] : List Int)⟩ : Ss_TextStep_2)) (Bs_TextStep_2 p0 r1 j3 r3 j5 r5)) fun j6 =>
 .ret ((⟨r5, j6⟩ : Xs_TextStep_6)))
 (.ret ((⟨0, ([] : List Int)⟩ : Xs_TextStep_6)))) fun j7 =>
 .jn false (ι := Bool) (fun j => ms 76 [(2, pV 2), (4, pV 4), (73, bV j)] [(2, [.bx [iC 0, iC 0, iC 0, .sl 1 ([]), iC 0, iC 0, sC ((⟨#[]⟩ : ByteArray)), sC ((⟨#[]⟩ : ByteArray)), sC ((⟨#[]⟩ : ByteArray)), sC ((⟨#[]⟩ : ByteArray)), iC 0, bC false]]), (4, [.bx [iC j3, iC r3, iC j7.w4_0_2, lC 1 eInt j7.w4_0_3, iC j5.w4_0_4, iC j5.w4_0_5, sC j5.w4_0_6, sC j5.w4_0_7, sC j5.w4_0_8, sC j5.w4_0_9, iC j5.w4_0_10, bC j5.w4_0_11]])])
 (.p 3 <|
 .cut 68 ((p0.toList == ((⟨#[]⟩ : ByteArray)).toList))
 (.p 5 <|
 .ret true)
 (.p 1 <|
 .bnd (s_StepText ((⟨j3, r3, j7.w4_0_2, j7.w4_0_3, (⟨j5.w4_0_4, (⟨j5.w4_0_5, j5.w4_0_6, j5.w4_0_7, (⟨j5.w4_0_8, j5.w4_0_9⟩ : Range), j5.w4_0_10, j5.w4_0_11⟩ : Ask)⟩ : Call)⟩ : Step))) fun r7 er7 =>
 .s (.lend (k_s_StepText ((⟨j3, r3, j7.w4_0_2, j7.w4_0_3, (⟨j5.w4_0_4, (⟨j5.w4_0_5, j5.w4_0_6, j5.w4_0_7, (⟨j5.w4_0_8, j5.w4_0_9⟩ : Range), j5.w4_0_10, j5.w4_0_11⟩ : Ask)⟩ : Call)⟩ : Step)) r7 er7) Tryd.call19 (clean_nil)) <|
 .p 3 <|
 .ret (!(r7.toList == p0.toList)))) fun j8 =>
 .ite (j8)
 (.p 3 <|
 .ret (((⟨0, 0, 0, [], (⟨0, (⟨0, (⟨#[]⟩ : ByteArray), (⟨#[]⟩ : ByteArray), (⟨(⟨#[]⟩ : ByteArray), (⟨#[]⟩ : ByteArray)⟩ : Range), 0, false⟩ : Ask)⟩ : Call)⟩ : Step), false)))
 (.p 1 <|
 .s (.o) <|
 .p 1 <|
 .ret (((⟨j3, r3, j7.w4_0_2, j7.w4_0_3, (⟨j5.w4_0_4, (⟨j5.w4_0_5, j5.w4_0_6, j5.w4_0_7, (⟨j5.w4_0_8, j5.w4_0_9⟩ : Range), j5.w4_0_10, j5.w4_0_11⟩ : Ask)⟩ : Call)⟩ : Step), true)))
/-- spec.TextStep -/
noncomputable def s_TextStep (p0 : ByteArray) : Option (Step × Bool) := (ws_TextStep p0).den
theorem k_s_TextStep (p0 : ByteArray) (v : Step × Bool) (h : s_TextStep p0 = some v) : CallOK Tryd.prog 5 [sV p0] (.tup [.agg [.c (iC v.1.kind), .c (iC v.1.a), .c (iC v.1.b), .so [] 0 0 (((v.1.keep).map eInt).length), .c (iC v.1.call.kind), .c (iC v.1.call.ask.kind), .c (sC v.1.call.ask.key), .c (sC v.1.call.ask.val), .c (sC v.1.call.ask.range.lo), .c (sC v.1.call.ask.range.hi), .c (iC v.1.call.ask.most), .c (bC v.1.call.ask.back)], .one (.c (bC v.2))]) [lC 1 eInt v.1.keep] :=
  (ws_TextStep p0).call tyOK Tryd.func5 rfl (res := (fun v : Step × Bool => .tup [.agg [.c (iC v.1.kind), .c (iC v.1.a), .c (iC v.1.b), .so [] 0 0 (((v.1.keep).map eInt).length), .c (iC v.1.call.kind), .c (iC v.1.call.ask.kind), .c (sC v.1.call.ask.key), .c (sC v.1.call.ask.val), .c (sC v.1.call.ask.range.lo), .c (sC v.1.call.ask.range.hi), .c (iC v.1.call.ask.most), .c (bC v.1.call.ask.back)], .one (.c (bC v.2))])) (row := (fun v : Step × Bool => [lC 1 eInt v.1.keep])) (by kernel_rfl) h


end Go.Proofs.YtagoajkiccgmjaaDoor
namespace Go.Proofs.YtagoajkiccgmjaaDoor
open Go.Mv Go.RowKit

structure Ss_ReadScript_1 where
  v4 : (List Step)
  v16 : Int

noncomputable def Bs_ReadScript_1 (r1 : (List ByteArray)) (s1 : Ss_ReadScript_1) : Wk (Ss_ReadScript_1 ⊕ ((List Step) ⊕ ((List Step) × Int))) :=
 .p 1 <|
 .ite (decide (s1.v16 < (((((r1).map eStr).length : Nat) : Int))))
 (.join true (ι := (List Step)) (fun j => ms 43 [(4, .one (.so [] 4 0 (((j).map eStep).length))), (14, lV 1 eStr r1), (15, iV (((((r1).map eStr).length : Nat) : Int))), (16, iV s1.v16)] [(4, [lC 12 eStep j])])
 (.eb <|
 .p 1 <|
 .bnd (getI r1 s1.v16) fun x1 ex1 =>
 .s (.idx eStr ex1) <|
 .p 4 <|
 .bnd (s_l14Quiet x1) fun r2 er2 =>
 .s (.call (k_s_l14Quiet x1 r2 er2) Tryd.call30) <|
 .ite (r2)
 (.ret (.inl s1.v4))
 (.p 1 <|
 .bnd (s_TextStep x1) fun r3 er3 =>
 .s (.call (k_s_TextStep x1 r3 er3) Tryd.call5) <|
 .p 4 <|
 .s (.o) <|
 .p 1 <|
 .jn false (ι := Bool) (fun j => ms 43 [(4, .one (.so [] 4 0 (((s1.v4).map eStep).length))), (5, iV s1.v16), (7, pV 7), (14, lV 1 eStr r1), (15, iV (((((r1).map eStr).length : Nat) : Int))), (16, iV s1.v16), (34, bV j)] [(4, [lC 12 eStep s1.v4]), (7, [.bx [iC r3.1.kind, iC r3.1.a, iC r3.1.b, lC 1 eInt r3.1.keep, iC r3.1.call.kind, iC r3.1.call.ask.kind, sC r3.1.call.ask.key, sC r3.1.call.ask.val, sC r3.1.call.ask.range.lo, sC r3.1.call.ask.range.hi, iC r3.1.call.ask.most, bC r3.1.call.ask.back]])])
 (.p 3 <|
 .cut 30 (!r3.2)
 (.p 4 <|
 .ret true)
 (.p 4 <|
 .ret (((((((s1.v4).map eStep).length : Nat) : Int)) == 300)))) fun j1 =>
 .ite (j1)
 (.p 4 <|
 .im (.nilo 2 2 12) <|
 .ret (.inr (.inr (.inr (([], IntKind.wrap .i64 (s1.v16 + 1)))))))
 (.p 2 <|
 .s (.ob) <|
 .chk (((s1.v4).length + 1) * 144 ≤ 140737488355328) fun c1 =>
 .s (.appn eStep (xs := s1.v4) r3.1 3 c1) <|
 .p 1 <|
 .im (.ren 40 4 4) <|
 .ret (.inl (s1.v4 ++ [r3.1]))))) fun j2 =>
 .p 2 <|
 .ret (.inl ((⟨j2, IntKind.wrap .i64 (s1.v16 + 1)⟩ : Ss_ReadScript_1))))
 (.ret (.inr (.inl s1.v4)))

noncomputable def ws_ReadScript (p0 : ByteArray) : Wk ((List Step) × Int) :=
 .p 5 <|
 .ite (decide (((p0.size : Int)) > 8000))
 (.p 2 <|
 .im (.nilo 2 2 12) <|
 .ret (([], 1)))
 (.p 3 <|
 .bnd (s_l14Lines p0) fun r1 er1 =>
 .s (.call (k_s_l14Lines p0 r1 er1) Tryd.call29) <|
 .p 2 <|
 .join true (ι := (List Step)) (fun j => ms 43 [(4, .one (.so [] 4 0 (((j).map eStep).length)))] [(4, [lC 12 eStep j])])
 (.eb <|
 .im (.ren 12 4 4) <|
 .loop (σ := Ss_ReadScript_1) (fun s1 => ms 43 [(4, .one (.so [] 4 0 (((s1.v4).map eStep).length))), (14, lV 1 eStr r1), (15, iV (((((r1).map eStr).length : Nat) : Int))), (16, iV s1.v16)] [(4, [lC 12 eStep s1.v4])]) ((⟨[], 0⟩ : Ss_ReadScript_1)) (Bs_ReadScript_1 r1)) fun j3 =>
 .p 3 <|
 .ret ((j3, 0)))
/-- spec.ReadScript -/
noncomputable def s_ReadScript (p0 : ByteArray) : Option ((List Step) × Int) := (ws_ReadScript p0).den
theorem k_s_ReadScript (p0 : ByteArray) (v : (List Step) × Int) (h : s_ReadScript p0 = some v) : CallOK Tryd.prog 10 [sV p0] (.tup [.one (.so [] 0 0 (((v.1).map eStep).length)), .one (.c (iC v.2))]) [lC 12 eStep v.1] :=
  (ws_ReadScript p0).call tyOK Tryd.func10 rfl (res := (fun v : (List Step) × Int => .tup [.one (.so [] 0 0 (((v.1).map eStep).length)), .one (.c (iC v.2))])) (row := (fun v : (List Step) × Int => [lC 12 eStep v.1])) (by kernel_rfl) h

noncomputable def wst_Split (p0 : ByteArray) (p1 : ByteArray) : Wk ((List ByteArray)) :=
 .p 3 <|
 .bnd (st_genSplit p0 p1 0 (-1)) fun r1 er1 =>
 .s (.call (k_st_genSplit p0 p1 0 (-1) r1 er1) Tryd.call39) <|
 .p 1 <|
 .ret r1
/-- strings.Split -/
noncomputable def st_Split (p0 : ByteArray) (p1 : ByteArray) : Option ((List ByteArray)) := (wst_Split p0 p1).den
theorem k_st_Split (p0 : ByteArray) (p1 : ByteArray) (v : (List ByteArray)) (h : st_Split p0 p1 = some v) : CallOK Tryd.prog 20 [sV p0, sV p1] (lV 1 eStr v) [] :=
  (wst_Split p0 p1).call tyOK Tryd.func20 rfl (res := (fun v : (List ByteArray) => lV 1 eStr v)) (row := (fun v : (List ByteArray) => [])) (by kernel_rfl) h

noncomputable def wi_linesOf (p0 : ByteArray) : Wk ((List ByteArray)) :=
 .p 2 <|
 .bnd (st_Split p0 ((⟨#[10]⟩ : ByteArray))) fun r1 er1 =>
 .s (.call (k_st_Split p0 ((⟨#[10]⟩ : ByteArray)) r1 er1) Tryd.call20) <|
 .p 5 <|
 .bnd (getI r1 (IntKind.wrap .i64 ((((((r1).map eStr).length : Nat) : Int)) - 1))) fun x1 ex1 =>
 .s (.idx eStr ex1) <|
 .p 2 <|
 .jn false (ι := (List ByteArray)) (fun j => ms 19 [(3, lV 1 eStr j)] [])
 (.ite ((x1.toList == ((⟨#[]⟩ : ByteArray)).toList))
 (.p 4 <|
 .chk (0 ≤ (0 : Int) ∧ (0 : Int) ≤ (IntKind.wrap .i64 ((((((r1).map eStr).length : Nat) : Int)) - 1)) ∧ (IntKind.wrap .i64 ((((((r1).map eStr).length : Nat) : Int)) - 1)) ≤ ((r1).length : Int)) fun c1 =>
 .s (.cutr eStr r1 c1) <|
 .p 1 <|
 .ret ((((r1).take ((IntKind.wrap .i64 ((((((r1).map eStr).length : Nat) : Int)) - 1)).toNat)).drop 0)))
 (.ret r1)) fun j1 =>
 .p 2 <|
 .ret j1
/-- impl.linesOf -/
noncomputable def i_linesOf (p0 : ByteArray) : Option ((List ByteArray)) := (wi_linesOf p0).den
theorem k_i_linesOf (p0 : ByteArray) (v : (List ByteArray)) (h : i_linesOf p0 = some v) : CallOK Tryd.prog 32 [sV p0] (lV 1 eStr v) [] :=
  (wi_linesOf p0).call tyOK Tryd.func32 rfl (res := (fun v : (List ByteArray) => lV 1 eStr v)) (row := (fun v : (List ByteArray) => [])) (by kernel_rfl) h

noncomputable def wi_says (p0 : ByteArray) : Wk (Bool) :=
 .p 1 <|
 .jn false (ι := Bool) (fun j => ms 10 [(2, bV j)] [])
 (.p 3 <|
 .cut 5 (!(p0.toList == ((⟨#[]⟩ : ByteArray)).toList))
 (.p 1 <|
 .chk ((0 ≤ (0 : Int) ∧ 0 < (p0.size : Int))) fun c1 =>
 .s (.q c1) <|
 .p 3 <|
 .ret (((byteAt p0 0) != 35)))
 (.p 5 <|
 .ret false)) fun j1 =>
 .ret j1
/-- impl.says -/
noncomputable def i_says (p0 : ByteArray) : Option (Bool) := (wi_says p0).den
theorem k_i_says (p0 : ByteArray) (v : Bool) (h : i_says p0 = some v) : CallOK Tryd.prog 47 [sV p0] (bV v) [] :=
  (wi_says p0).call tyOK Tryd.func47 rfl (res := (fun v : Bool => bV v)) (row := (fun v : Bool => [])) (by kernel_rfl) h

noncomputable def wi_wordOf (p0 : Int) : Wk (ByteArray) :=
 .p 2 <|
 .eb <|
 .p 2 <|
 .ite ((p0 == 2))
 (.p 1 <|
 .ret ((⟨#[100, 101, 108, 105, 118, 101, 114]⟩ : ByteArray)))
 (.p 2 <|
 .ite ((p0 == 3))
 (.p 1 <|
 .ret ((⟨#[108, 111, 115, 101]⟩ : ByteArray)))
 (.p 2 <|
 .ite ((p0 == 4))
 (.p 1 <|
 .ret ((⟨#[100, 111, 117, 98, 108, 101]⟩ : ByteArray)))
 (.p 2 <|
 .ite ((p0 == 5))
 (.p 1 <|
 .ret ((⟨#[116, 105, 99, 107]⟩ : ByteArray)))
 (.p 2 <|
 .ite ((p0 == 6))
 (.p 1 <|
 .ret ((⟨#[100, 111, 119, 110]⟩ : ByteArray)))
 (.p 2 <|
 .ite ((p0 == 7))
 (.p 1 <|
 .ret ((⟨#[116, 111, 114, 110]⟩ : ByteArray)))
 (.p 2 <|
 .ite ((p0 == 8))
 (.p 1 <|
 .ret ((⟨#[117, 112]⟩ : ByteArray)))
 (.p 2 <|
 .ite ((p0 == 9))
 (.p 1 <|
 .ret ((⟨#[99, 97, 108, 109]⟩ : ByteArray)))
 (.p 1 <|
 .ret ((⟨#[]⟩ : ByteArray))))))))))
/-- impl.wordOf -/
noncomputable def i_wordOf (p0 : Int) : Option (ByteArray) := (wi_wordOf p0).den
theorem k_i_wordOf (p0 : Int) (v : ByteArray) (h : i_wordOf p0 = some v) : CallOK Tryd.prog 21 [iV p0] (sV v) [] :=
  (wi_wordOf p0).call tyOK Tryd.func21 rfl (res := (fun v : ByteArray => sV v)) (row := (fun v : ByteArray => [])) (by kernel_rfl) h

noncomputable def wi_within (p0 : Int) (p1 : Int) (p2 : Int) : Wk (Bool) :=
 .p 1 <|
 .jn false (ι := Bool) (fun j => ms 15 [(6, bV j)] [])
 (.p 4 <|
 .cut 10 (decide (p0 ≥ p1))
 (.p 5 <|
 .ret (decide (p0 ≤ p2)))
 (.p 5 <|
 .ret false)) fun j1 =>
 .ret j1
/-- impl.within -/
noncomputable def i_within (p0 : Int) (p1 : Int) (p2 : Int) : Option (Bool) := (wi_within p0 p1 p2).den
theorem k_i_within (p0 : Int) (p1 : Int) (p2 : Int) (v : Bool) (h : i_within p0 p1 p2 = some v) : CallOK Tryd.prog 40 [iV p0, iV p1, iV p2] (bV v) [] :=
  (wi_within p0 p1 p2).call tyOK Tryd.func40 rfl (res := (fun v : Bool => bV v)) (row := (fun v : Bool => [])) (by kernel_rfl) h

noncomputable def wi_isNum (p0 : Int) : Wk (Bool) :=
 .p 2 <|
 .bnd (i_within p0 0 1099511627775) fun r1 er1 =>
 .s (.call (k_i_within p0 0 1099511627775 r1 er1) Tryd.call40) <|
 .p 1 <|
 .ret r1
/-- impl.isNum -/
noncomputable def i_isNum (p0 : Int) : Option (Bool) := (wi_isNum p0).den
theorem k_i_isNum (p0 : Int) (v : Bool) (h : i_isNum p0 = some v) : CallOK Tryd.prog 54 [iV p0] (bV v) [] :=
  (wi_isNum p0).call tyOK Tryd.func54 rfl (res := (fun v : Bool => bV v)) (row := (fun v : Bool => [])) (by kernel_rfl) h

structure Xi_NumText_1 where
  v0 : Int
  v3 : ByteArray

structure Si_NumText_1 where
  v0 : Int
  v3 : ByteArray

noncomputable def Bi_NumText_1 (s1 : Si_NumText_1) : Wk (Si_NumText_1 ⊕ Xi_NumText_1) :=
 .p 2 <|
 .ite (decide (s1.v0 > 9))
 (.eb <|
 .p 7 <|
 .chk (((byteB (IntKind.wrap .u8 (IntKind.wrap .i64 (48 + (Int.tmod s1.v0 10))))).size + s1.v3.size ≤ 140737488355328)) fun c1 =>
 .s (.q c1) <|
 .p 4 <|
 .ret (.inl ((⟨IntKind.wrap .i64 (Int.tdiv s1.v0 10), (byteB (IntKind.wrap .u8 (IntKind.wrap .i64 (48 + (Int.tmod s1.v0 10))))) ++ s1.v3⟩ : Si_NumText_1))))
 (.ret (.inr ((⟨s1.v0, s1.v3⟩ : Xi_NumText_1))))

noncomputable def wi_NumText (p0 : Int) : Wk (ByteArray) :=
 .p 2 <|
 .bnd (i_isNum p0) fun r1 er1 =>
 .s (.call (k_i_isNum p0 r1 er1) Tryd.call54) <|
 .p 1 <|
 .ite (!r1)
 (.p 1 <|
 .ret ((⟨#[]⟩ : ByteArray)))
 (.p 1 <|
 .jn true (ι := Xi_NumText_1) (fun j => ms 26 [(0, iV j.v0), (3, sV j.v3)] [])
 (.eb <|
 .loop (σ := Si_NumText_1) (fun s1 => ms 26 [(0, iV s1.v0), (3, sV s1.v3)] []) ((⟨p0, (⟨#[]⟩ : ByteArray)⟩ : Si_NumText_1)) (Bi_NumText_1)) fun j1 =>
 .p 6 <|
 .chk (((byteB (IntKind.wrap .u8 (IntKind.wrap .i64 (48 + j1.v0)))).size + j1.v3.size ≤ 140737488355328)) fun c2 =>
 .s (.q c2) <|
 .p 1 <|
 .ret ((byteB (IntKind.wrap .u8 (IntKind.wrap .i64 (48 + j1.v0)))) ++ j1.v3))
/-- impl.NumText -/
noncomputable def i_NumText (p0 : Int) : Option (ByteArray) := (wi_NumText p0).den
theorem k_i_NumText (p0 : Int) (v : ByteArray) (h : i_NumText p0 = some v) : CallOK Tryd.prog 41 [iV p0] (sV v) [] :=
  (wi_NumText p0).call tyOK Tryd.func41 rfl (res := (fun v : ByteArray => sV v)) (row := (fun v : ByteArray => [])) (by kernel_rfl) h

structure Si_TextNum_1 where
  v4 : Int
  v5 : Int

noncomputable def Bi_TextNum_1 (p0 : ByteArray) (s1 : Si_TextNum_1) : Wk (Si_TextNum_1 ⊕ (Int ⊕ (Int × Bool))) :=
 .p 4 <|
 .ite (decide (s1.v5 < ((p0.size : Int))))
 (.eb <|
 .jn false (ι := Bool) (fun j => ms 39 [(0, sV p0), (4, iV s1.v4), (5, iV s1.v5), (25, bV j)] [])
 (.p 2 <|
 .chk ((0 ≤ s1.v5 ∧ s1.v5 < (p0.size : Int))) fun c1 =>
 .s (.q c1) <|
 .p 2 <|
 .cut 20 (decide ((byteAt p0 s1.v5) < 48))
 (.p 5 <|
 .ret true)
 (.p 2 <|
 .chk ((0 ≤ s1.v5 ∧ s1.v5 < (p0.size : Int))) fun c2 =>
 .s (.q c2) <|
 .p 2 <|
 .ret (decide ((byteAt p0 s1.v5) > 57)))) fun j1 =>
 .ite (j1)
 (.p 2 <|
 .ret (.inr (.inr ((0, false)))))
 (.p 4 <|
 .chk ((0 ≤ s1.v5 ∧ s1.v5 < (p0.size : Int))) fun c3 =>
 .s (.q c3) <|
 .p 7 <|
 .ret (.inl ((⟨IntKind.wrap .i64 ((IntKind.wrap .i64 (10 * s1.v4)) + (IntKind.wrap .i64 (IntKind.wrap .u8 ((byteAt p0 s1.v5) - 48)))), IntKind.wrap .i64 (s1.v5 + 1)⟩ : Si_TextNum_1)))))
 (.ret (.inr (.inl s1.v4)))

noncomputable def wi_TextNum (p0 : ByteArray) : Wk (Int × Bool) :=
 .p 4 <|
 .bnd (i_within ((p0.size : Int)) 1 13) fun r1 er1 =>
 .s (.call (k_i_within ((p0.size : Int)) 1 13 r1 er1) Tryd.call40) <|
 .p 1 <|
 .ite (!r1)
 (.p 2 <|
 .ret ((0, false)))
 (.p 2 <|
 .join true (ι := Int) (fun j => ms 39 [(0, sV p0), (4, iV j)] [])
 (.eb <|
 .loop (σ := Si_TextNum_1) (fun s1 => ms 39 [(0, sV p0), (4, iV s1.v4), (5, iV s1.v5)] []) ((⟨0, 0⟩ : Si_TextNum_1)) (Bi_TextNum_1 p0)) fun j2 =>
 .p 1 <|
 .bnd (i_NumText j2) fun r2 er2 =>
 .s (.call (k_i_NumText j2 r2 er2) Tryd.call41) <|
 .p 2 <|
 .ite (!(r2.toList == p0.toList))
 (.p 2 <|
 .ret ((0, false)))
 (.p 3 <|
 .ret ((j2, true))))
/-- impl.TextNum -/
noncomputable def i_TextNum (p0 : ByteArray) : Option (Int × Bool) := (wi_TextNum p0).den
theorem k_i_TextNum (p0 : ByteArray) (v : Int × Bool) (h : i_TextNum p0 = some v) : CallOK Tryd.prog 22 [sV p0] (.tup [.one (.c (iC v.1)), .one (.c (bC v.2))]) [] :=
  (wi_TextNum p0).call tyOK Tryd.func22 rfl (res := (fun v : Int × Bool => .tup [.one (.c (iC v.1)), .one (.c (bC v.2))])) (row := (fun v : Int × Bool => [])) (by kernel_rfl) h

noncomputable def Bi_figure_1 (p0 : Int) (s1 : Int) : Wk (Int ⊕ (Unit ⊕ (Int))) :=
 .p 1 <|
 .ite (decide (s1 < 16))
 (.eb <|
 .p 3 <|
 .chk ((0 ≤ s1 ∧ s1 < (((⟨#[48, 49, 50, 51, 52, 53, 54, 55, 56, 57, 65, 66, 67, 68, 69, 70]⟩ : ByteArray)).size : Int))) fun c1 =>
 .s (.q c1) <|
 .p 2 <|
 .ite (((byteAt ((⟨#[48, 49, 50, 51, 52, 53, 54, 55, 56, 57, 65, 66, 67, 68, 69, 70]⟩ : ByteArray)) s1) == p0))
 (.p 2 <|
 .ret (.inr (.inr s1)))
 (.p 2 <|
 .ret (.inl (IntKind.wrap .i64 (s1 + 1)))))
 (.ret (.inr (.inl (()))))

noncomputable def wi_figure (p0 : Int) : Wk (Int) :=
 .p 2 <|
 .join true (ι := Unit) (fun j => ms 13 [] [])
 (.eb <|
 .loop (σ := Int) (fun s1 => ms 13 [(0, .one (.c (.v (.int .u8 p0)))), (4, iV s1)] []) 0 (Bi_figure_1 p0)) fun j1 =>
 .p 1 <|
 .ret (-1)
/-- impl.figure -/
noncomputable def i_figure (p0 : Int) : Option (Int) := (wi_figure p0).den
theorem k_i_figure (p0 : Int) (v : Int) (h : i_figure p0 = some v) : CallOK Tryd.prog 69 [.one (.c (.v (.int .u8 p0)))] (iV v) [] :=
  (wi_figure p0).call tyOK Tryd.func69 rfl (res := (fun v : Int => iV v)) (row := (fun v : Int => [])) (by kernel_rfl) h

structure Si_Quote_1 where
  v3 : (List Int)
  v4 : Int

noncomputable def Bi_Quote_1 (p0 : ByteArray) (s1 : Si_Quote_1) : Wk (Si_Quote_1 ⊕ (List Int)) :=
 .p 4 <|
 .ite (decide (s1.v4 < ((p0.size : Int))))
 (.eb <|
 .p 2 <|
 .chk ((0 ≤ s1.v4 ∧ s1.v4 < (p0.size : Int))) fun c1 =>
 .s (.q c1) <|
 .p 1 <|
 .jn false (ι := Bool) (fun j => ms 47 [(0, sV p0), (3, .one (.so [] 3 0 (((s1.v3).map eN_u8).length))), (4, iV s1.v4), (5, .one (.c (.v (.int .u8 (byteAt p0 s1.v4))))), (29, bV j)] [(3, [lC 1 eN_u8 s1.v3])])
 (.p 2 <|
 .bnd (i_within (IntKind.wrap .i64 (byteAt p0 s1.v4)) 33 126) fun r1 er1 =>
 .s (.call (k_i_within (IntKind.wrap .i64 (byteAt p0 s1.v4)) 33 126 r1 er1) Tryd.call40) <|
 .p 1 <|
 .cut 22 (r1)
 (.p 4 <|
 .cut 26 (((byteAt p0 s1.v4) != 34))
 (.p 3 <|
 .ret (((byteAt p0 s1.v4) != 37)))
 (.p 3 <|
 .ret false))
 (.p 7 <|
 .ret false)) fun j1 =>
 .jn false (ι := (List Int)) (fun j => ms 47 [(0, sV p0), (3, .one (.so [] 3 0 (((j).map eN_u8).length))), (4, iV s1.v4)] [(3, [lC 1 eN_u8 j])])
 (.ite (j1)
 (.p 3 <|
 .chk (((s1.v3).length + (([byteAt p0 s1.v4] : List Int)).length) * 1 ≤ 140737488355328) fun c2 =>
 .s (.app eN_u8 .lit c2) <|
 .p 1 <|
 .im (.ren 33 3 3) <|
 .ret (s1.v3 ++ ([byteAt p0 s1.v4] : List Int)))
 (.chk ((0 ≤ (Int.fdiv (byteAt p0 s1.v4) 16) ∧ (Int.fdiv (byteAt p0 s1.v4) 16) < (((⟨#[48, 49, 50, 51, 52, 53, 54, 55, 56, 57, 65, 66, 67, 68, 69, 70]⟩ : ByteArray)).size : Int))) fun c3 =>
 .chk ((0 ≤ (IntKind.wrap .u8 (((BitVec.ofInt 8 (byteAt p0 s1.v4) &&& BitVec.ofInt 8 15).toNat : Nat) : Int)) ∧ (IntKind.wrap .u8 (((BitVec.ofInt 8 (byteAt p0 s1.v4) &&& BitVec.ofInt 8 15).toNat : Nat) : Int)) < (((⟨#[48, 49, 50, 51, 52, 53, 54, 55, 56, 57, 65, 66, 67, 68, 69, 70]⟩ : ByteArray)).size : Int))) fun c4 =>
 .chk (((s1.v3).length + (([37, byteAt ((⟨#[48, 49, 50, 51, 52, 53, 54, 55, 56, 57, 65, 66, 67, 68, 69, 70]⟩ : ByteArray)) (Int.fdiv (byteAt p0 s1.v4) 16), byteAt ((⟨#[48, 49, 50, 51, 52, 53, 54, 55, 56, 57, 65, 66, 67, 68, 69, 70]⟩ : ByteArray)) (IntKind.wrap .u8 (((BitVec.ofInt 8 (byteAt p0 s1.v4) &&& BitVec.ofInt 8 15).toNat : Nat) : Int))] : List Int)).length) * 1 ≤ 140737488355328) fun c5 =>
 .drawn [8] [(3, .q c3), (6, .q c4), (8, .app eN_u8 .lit c5)] (ms 47 [(0, sV p0), (3, .one (.so [] 42 0 (((s1.v3 ++ ([37, byteAt ((⟨#[48, 49, 50, 51, 52, 53, 54, 55, 56, 57, 65, 66, 67, 68, 69, 70]⟩ : ByteArray)) (Int.fdiv (byteAt p0 s1.v4) 16), byteAt ((⟨#[48, 49, 50, 51, 52, 53, 54, 55, 56, 57, 65, 66, 67, 68, 69, 70]⟩ : ByteArray)) (IntKind.wrap .u8 (((BitVec.ofInt 8 (byteAt p0 s1.v4) &&& BitVec.ofInt 8 15).toNat : Nat) : Int))] : List Int)).map eN_u8).length))), (4, iV s1.v4)] [(42, [lC 1 eN_u8 (s1.v3 ++ ([37, byteAt ((⟨#[48, 49, 50, 51, 52, 53, 54, 55, 56, 57, 65, 66, 67, 68, 69, 70]⟩ : ByteArray)) (Int.fdiv (byteAt p0 s1.v4) 16), byteAt ((⟨#[48, 49, 50, 51, 52, 53, 54, 55, 56, 57, 65, 66, 67, 68, 69, 70]⟩ : ByteArray)) (IntKind.wrap .u8 (((BitVec.ofInt 8 (byteAt p0 s1.v4) &&& BitVec.ofInt 8 15).toNat : Nat) : Int))] : List Int))])]) <|
 .im (.ren 42 3 3) <|
 .ret (s1.v3 ++ ([37, byteAt ((⟨#[48, 49, 50, 51, 52, 53, 54, 55, 56, 57, 65, 66, 67, 68, 69, 70]⟩ : ByteArray)) (Int.fdiv (byteAt p0 s1.v4) 16), byteAt ((⟨#[48, 49, 50, 51, 52, 53, 54, 55, 56, 57, 65, 66, 67, 68, 69, 70]⟩ : ByteArray)) (IntKind.wrap .u8 (((BitVec.ofInt 8 (byteAt p0 s1.v4) &&& BitVec.ofInt 8 15).toNat : Nat) : Int))] : List Int)))) fun j2 =>
 .p 3 <|
 .ret (.inl ((⟨j2, IntKind.wrap .i64 (s1.v4 + 1)⟩ : Si_Quote_1))))
 (.ret (.inr s1.v3))

noncomputable def wi_Quote (p0 : ByteArray) : Wk (ByteArray) :=
 .p 4 <|
 .ite (decide (((p0.size : Int)) > 4096))
 (.p 1 <|
 .ret ((⟨#[]⟩ : ByteArray)))
 (.p 3 <|
 .jn true (ι := (List Int)) (fun j => ms 47 [(3, .one (.so [] 3 0 (((j).map eN_u8).length)))] [(3, [lC 1 eN_u8 j])])
 (.eb <|
 .im (.ren 9 3 3) <|
 .loop (σ := Si_Quote_1) (fun s1 => ms 47 [(0, sV p0), (3, .one (.so [] 3 0 (((s1.v3).map eN_u8).length))), (4, iV s1.v4)] [(3, [lC 1 eN_u8 s1.v3])]) ((⟨[34], 0⟩ : Si_Quote_1)) (Bi_Quote_1 p0)) fun j3 =>
 .p 2 <|
 .chk (((j3).length + (([34] : List Int)).length) * 1 ≤ 140737488355328) fun c6 =>
 .s (.app eN_u8 .lit c6) <|
 .chk (∀ n ∈ (j3 ++ ([34] : List Int) : List Int), 0 ≤ n ∧ n < 256) fun c7 =>
 .s (.str c7) <|
 .p 1 <|
 .ret (strOfNums (j3 ++ ([34] : List Int))))
/-- impl.Quote -/
noncomputable def i_Quote (p0 : ByteArray) : Option (ByteArray) := (wi_Quote p0).den
theorem k_i_Quote (p0 : ByteArray) (v : ByteArray) (h : i_Quote p0 = some v) : CallOK Tryd.prog 70 [sV p0] (sV v) [] :=
  (wi_Quote p0).call tyOK Tryd.func70 rfl (res := (fun v : ByteArray => sV v)) (row := (fun v : ByteArray => [])) (by kernel_rfl) h

structure Si_Unquote_1 where
  v4 : (List Int)
  v5 : Int

structure Xi_Unquote_2 where
  v4 : (List Int)
  v5 : Int

noncomputable def Bi_Unquote_1 (p0 : ByteArray) (s1 : Si_Unquote_1) : Wk (Si_Unquote_1 ⊕ ((List Int) ⊕ (ByteArray × Bool))) :=
 .p 5 <|
 .ite (decide (s1.v5 < (IntKind.wrap .i64 (((p0.size : Int)) - 1))))
 (.join true (ι := Xi_Unquote_2) (fun j => ms 69 [(0, sV p0), (4, .one (.so [] 4 0 (((j.v4).map eN_u8).length))), (5, iV j.v5)] [(4, [lC 1 eN_u8 j.v4])])
 (.eb <|
 .p 2 <|
 .chk ((0 ≤ s1.v5 ∧ s1.v5 < (p0.size : Int))) fun c1 =>
 .s (.q c1) <|
 .p 1 <|
 .ite (((byteAt p0 s1.v5) != 37))
 (.p 3 <|
 .chk ((0 ≤ s1.v5 ∧ s1.v5 < (p0.size : Int))) fun c2 =>
 .s (.q c2) <|
 .p 1 <|
 .chk (((s1.v4).length + (([byteAt p0 s1.v5] : List Int)).length) * 1 ≤ 140737488355328) fun c3 =>
 .s (.app eN_u8 .lit c3) <|
 .p 1 <|
 .im (.ren 25 4 4) <|
 .ret (.inl ((⟨s1.v4 ++ ([byteAt p0 s1.v5] : List Int), s1.v5⟩ : Xi_Unquote_2))))
 (.p 6 <|
 .ite (decide ((IntKind.wrap .i64 (s1.v5 + 2)) ≥ (IntKind.wrap .i64 (((p0.size : Int)) - 1))))
 (.p 2 <|
 .ret (.inr (.inr (.inr (((⟨#[]⟩ : ByteArray), false))))))
 (.chk ((0 ≤ (IntKind.wrap .i64 (s1.v5 + 1)) ∧ (IntKind.wrap .i64 (s1.v5 + 1)) < (p0.size : Int))) fun c4 =>
 .bnd (i_figure (byteAt p0 (IntKind.wrap .i64 (s1.v5 + 1)))) fun r1 er1 =>
 .chk ((0 ≤ (IntKind.wrap .i64 (s1.v5 + 2)) ∧ (IntKind.wrap .i64 (s1.v5 + 2)) < (p0.size : Int))) fun c5 =>
 .bnd (i_figure (byteAt p0 (IntKind.wrap .i64 (s1.v5 + 2)))) fun r2 er2 =>
 .drawn [] [(3, .q c4), (4, .call (k_i_figure (byteAt p0 (IntKind.wrap .i64 (s1.v5 + 1))) r1 er1) Tryd.call69), (8, .q c5), (9, .call (k_i_figure (byteAt p0 (IntKind.wrap .i64 (s1.v5 + 2))) r2 er2) Tryd.call69)] (ms 69 [(0, sV p0), (4, .one (.so [] 4 0 (((s1.v4).map eN_u8).length))), (5, iV s1.v5), (6, iV r1), (7, iV r2)] [(4, [lC 1 eN_u8 s1.v4])]) <|
 .jn false (ι := Bool) (fun j => ms 69 [(0, sV p0), (4, .one (.so [] 4 0 (((s1.v4).map eN_u8).length))), (5, iV s1.v5), (6, iV r1), (7, iV r2), (47, bV j)] [(4, [lC 1 eN_u8 s1.v4])])
 (.p 3 <|
 .cut 44 (decide (r1 < 0))
 (.p 3 <|
 .ret true)
 (.p 3 <|
 .ret (decide (r2 < 0)))) fun j1 =>
 .ite (j1)
 (.p 2 <|
 .ret (.inr (.inr (.inr (((⟨#[]⟩ : ByteArray), false))))))
 (.p 7 <|
 .chk (((s1.v4).length + (([IntKind.wrap .u8 (IntKind.wrap .i64 ((IntKind.wrap .i64 (16 * r1)) + r2))] : List Int)).length) * 1 ≤ 140737488355328) fun c6 =>
 .s (.app eN_u8 .lit c6) <|
 .p 4 <|
 .im (.ren 55 4 4) <|
 .ret (.inl ((⟨s1.v4 ++ ([IntKind.wrap .u8 (IntKind.wrap .i64 ((IntKind.wrap .i64 (16 * r1)) + r2))] : List Int), IntKind.wrap .i64 (s1.v5 + 2)⟩ : Xi_Unquote_2))))))) fun j2 =>
 .p 3 <|
 .ret (.inl ((⟨j2.v4, IntKind.wrap .i64 (j2.v5 + 1)⟩ : Si_Unquote_1))))
 (.ret (.inr (.inl s1.v4)))

noncomputable def wi_Unquote (p0 : ByteArray) : Wk (ByteArray × Bool) :=
 .p 5 <|
 .join true (ι := (List Int)) (fun j => ms 69 [(0, sV p0), (4, .one (.so [] 4 0 (((j).map eN_u8).length)))] [(4, [lC 1 eN_u8 j])])
 (.eb <|
 .im (.ren 8 4 4) <|
 .loop (σ := Si_Unquote_1) (fun s1 => ms 69 [(0, sV p0), (4, .one (.so [] 4 0 (((s1.v4).map eN_u8).length))), (5, iV s1.v5)] [(4, [lC 1 eN_u8 s1.v4])]) ((⟨[], 1⟩ : Si_Unquote_1)) (Bi_Unquote_1 p0)) fun j3 =>
 .jn false (ι := Bool) (fun j => ms 69 [(4, .one (.so [] 4 0 (((j3).map eN_u8).length))), (66, bV j)] [(4, [lC 1 eN_u8 j3])])
 (.p 3 <|
 .cut 60 ((p0.toList == ((⟨#[]⟩ : ByteArray)).toList))
 (.p 6 <|
 .ret true)
 (.p 1 <|
 .chk (∀ n ∈ (j3 : List Int), 0 ≤ n ∧ n < 256) fun c7 =>
 .s (.str c7) <|
 .bnd (i_Quote (strOfNums j3)) fun r3 er3 =>
 .s (.call (k_i_Quote (strOfNums j3) r3 er3) Tryd.call70) <|
 .p 3 <|
 .ret (!(r3.toList == p0.toList)))) fun j4 =>
 .ite (j4)
 (.p 2 <|
 .ret (((⟨#[]⟩ : ByteArray), false)))
 (.p 1 <|
 .chk (∀ n ∈ (j3 : List Int), 0 ≤ n ∧ n < 256) fun c8 =>
 .s (.str c8) <|
 .p 2 <|
 .ret ((strOfNums j3, true)))
/-- impl.Unquote -/
noncomputable def i_Unquote (p0 : ByteArray) : Option (ByteArray × Bool) := (wi_Unquote p0).den
theorem k_i_Unquote (p0 : ByteArray) (v : ByteArray × Bool) (h : i_Unquote p0 = some v) : CallOK Tryd.prog 55 [sV p0] (.tup [.one (.c (sC v.1)), .one (.c (bC v.2))]) [] :=
  (wi_Unquote p0).call tyOK Tryd.func55 rfl (res := (fun v : ByteArray × Bool => .tup [.one (.c (sC v.1)), .one (.c (bC v.2))])) (row := (fun v : ByteArray × Bool => [])) (by kernel_rfl) h

noncomputable def wi_quoted (p0 : ByteArray) : Wk (ByteArray) :=
 .p 2 <|
 .bnd (i_Unquote p0) fun r1 er1 =>
 .s (.call (k_i_Unquote p0 r1 er1) Tryd.call55) <|
 .p 7 <|
 .ret r1.1
/-- impl.quoted -/
noncomputable def i_quoted (p0 : ByteArray) : Option (ByteArray) := (wi_quoted p0).den
theorem k_i_quoted (p0 : ByteArray) (v : ByteArray) (h : i_quoted p0 = some v) : CallOK Tryd.prog 42 [sV p0] (sV v) [] :=
  (wi_quoted p0).call tyOK Tryd.func42 rfl (res := (fun v : ByteArray => sV v)) (row := (fun v : ByteArray => [])) (by kernel_rfl) h


end Go.Proofs.YtagoajkiccgmjaaDoor
namespace Go.Proofs.YtagoajkiccgmjaaDoor
open Go.Mv Go.RowKit

noncomputable def wi_textCall (p0 : (List ByteArray)) : Wk (Call) :=
 .p 1 <|
 .eb <|
 .jn false (ι := Bool) (fun j => ms 130 [(0, lV 1 eStr p0), (2, pV 2), (4, bV j)] [(2, [.bx [iC 0, iC 0, sC ((⟨#[]⟩ : ByteArray)), sC ((⟨#[]⟩ : ByteArray)), sC ((⟨#[]⟩ : ByteArray)), sC ((⟨#[]⟩ : ByteArray)), iC 0, bC false]])])
 (.p 4 <|
 .cut 8 (((((((p0).map eStr).length : Nat) : Int)) == 1))
 (.p 1 <|
 .bnd (getI p0 0) fun x1 ex1 =>
 .s (.idx eStr ex1) <|
 .p 4 <|
 .ret ((x1.toList == ((⟨#[98, 101, 103, 105, 110]⟩ : ByteArray)).toList)))
 (.p 6 <|
 .ret false)) fun j1 =>
 .ite (j1)
 (.p 2 <|
 .ret ((⟨1, (⟨0, (⟨#[]⟩ : ByteArray), (⟨#[]⟩ : ByteArray), (⟨(⟨#[]⟩ : ByteArray), (⟨#[]⟩ : ByteArray)⟩ : Range), 0, false⟩ : Ask)⟩ : Call)))
 (.jn false (ι := Bool) (fun j => ms 130 [(0, lV 1 eStr p0), (2, pV 2), (15, bV j)] [(2, [.bx [iC 0, iC 0, sC ((⟨#[]⟩ : ByteArray)), sC ((⟨#[]⟩ : ByteArray)), sC ((⟨#[]⟩ : ByteArray)), sC ((⟨#[]⟩ : ByteArray)), iC 0, bC false]])])
 (.p 4 <|
 .cut 19 (((((((p0).map eStr).length : Nat) : Int)) == 1))
 (.p 1 <|
 .bnd (getI p0 0) fun x1 ex1 =>
 .s (.idx eStr ex1) <|
 .p 4 <|
 .ret ((x1.toList == ((⟨#[99, 111, 109, 109, 105, 116]⟩ : ByteArray)).toList)))
 (.p 6 <|
 .ret false)) fun j2 =>
 .ite (j2)
 (.p 2 <|
 .ret ((⟨3, (⟨0, (⟨#[]⟩ : ByteArray), (⟨#[]⟩ : ByteArray), (⟨(⟨#[]⟩ : ByteArray), (⟨#[]⟩ : ByteArray)⟩ : Range), 0, false⟩ : Ask)⟩ : Call)))
 (.jn false (ι := Bool) (fun j => ms 130 [(0, lV 1 eStr p0), (2, pV 2), (26, bV j)] [(2, [.bx [iC 0, iC 0, sC ((⟨#[]⟩ : ByteArray)), sC ((⟨#[]⟩ : ByteArray)), sC ((⟨#[]⟩ : ByteArray)), sC ((⟨#[]⟩ : ByteArray)), iC 0, bC false]])])
 (.p 4 <|
 .cut 30 (((((((p0).map eStr).length : Nat) : Int)) == 1))
 (.p 1 <|
 .bnd (getI p0 0) fun x1 ex1 =>
 .s (.idx eStr ex1) <|
 .p 4 <|
 .ret ((x1.toList == ((⟨#[97, 98, 111, 114, 116]⟩ : ByteArray)).toList)))
 (.p 6 <|
 .ret false)) fun j3 =>
 .ite (j3)
 (.p 2 <|
 .ret ((⟨4, (⟨0, (⟨#[]⟩ : ByteArray), (⟨#[]⟩ : ByteArray), (⟨(⟨#[]⟩ : ByteArray), (⟨#[]⟩ : ByteArray)⟩ : Range), 0, false⟩ : Ask)⟩ : Call)))
 (.jn false (ι := Bool) (fun j => ms 130 [(0, lV 1 eStr p0), (2, pV 2), (37, bV j)] [(2, [.bx [iC 0, iC 0, sC ((⟨#[]⟩ : ByteArray)), sC ((⟨#[]⟩ : ByteArray)), sC ((⟨#[]⟩ : ByteArray)), sC ((⟨#[]⟩ : ByteArray)), iC 0, bC false]])])
 (.p 4 <|
 .cut 41 (((((((p0).map eStr).length : Nat) : Int)) == 2))
 (.p 1 <|
 .bnd (getI p0 0) fun x1 ex1 =>
 .s (.idx eStr ex1) <|
 .p 4 <|
 .ret ((x1.toList == ((⟨#[103, 101, 116]⟩ : ByteArray)).toList)))
 (.p 6 <|
 .ret false)) fun j4 =>
 .ite (j4)
 (.p 1 <|
 .bnd (getI p0 1) fun x1 ex1 =>
 .s (.idx eStr ex1) <|
 .p 1 <|
 .bnd (i_quoted x1) fun r1 er1 =>
 .s (.call (k_i_quoted x1 r1 er1) Tryd.call42) <|
 .p 3 <|
 .ret ((⟨2, (⟨1, r1, (⟨#[]⟩ : ByteArray), (⟨(⟨#[]⟩ : ByteArray), (⟨#[]⟩ : ByteArray)⟩ : Range), 0, false⟩ : Ask)⟩ : Call)))
 (.jn false (ι := Bool) (fun j => ms 130 [(0, lV 1 eStr p0), (2, pV 2), (53, bV j)] [(2, [.bx [iC 0, iC 0, sC ((⟨#[]⟩ : ByteArray)), sC ((⟨#[]⟩ : ByteArray)), sC ((⟨#[]⟩ : ByteArray)), sC ((⟨#[]⟩ : ByteArray)), iC 0, bC false]])])
 (.p 4 <|
 .cut 57 (((((((p0).map eStr).length : Nat) : Int)) == 2))
 (.p 1 <|
 .bnd (getI p0 0) fun x2 ex2 =>
 .s (.idx eStr ex2) <|
 .p 4 <|
 .ret ((x2.toList == ((⟨#[100, 101, 108]⟩ : ByteArray)).toList)))
 (.p 6 <|
 .ret false)) fun j5 =>
 .ite (j5)
 (.p 1 <|
 .bnd (getI p0 1) fun x2 ex2 =>
 .s (.idx eStr ex2) <|
 .p 1 <|
 .bnd (i_quoted x2) fun r2 er2 =>
 .s (.call (k_i_quoted x2 r2 er2) Tryd.call42) <|
 .p 3 <|
 .ret ((⟨2, (⟨3, r2, (⟨#[]⟩ : ByteArray), (⟨(⟨#[]⟩ : ByteArray), (⟨#[]⟩ : ByteArray)⟩ : Range), 0, false⟩ : Ask)⟩ : Call)))
 (.jn false (ι := Bool) (fun j => ms 130 [(0, lV 1 eStr p0), (2, pV 2), (69, bV j)] [(2, [.bx [iC 0, iC 0, sC ((⟨#[]⟩ : ByteArray)), sC ((⟨#[]⟩ : ByteArray)), sC ((⟨#[]⟩ : ByteArray)), sC ((⟨#[]⟩ : ByteArray)), iC 0, bC false]])])
 (.p 4 <|
 .cut 73 (((((((p0).map eStr).length : Nat) : Int)) == 3))
 (.p 1 <|
 .bnd (getI p0 0) fun x3 ex3 =>
 .s (.idx eStr ex3) <|
 .p 4 <|
 .ret ((x3.toList == ((⟨#[112, 117, 116]⟩ : ByteArray)).toList)))
 (.p 6 <|
 .ret false)) fun j6 =>
 .ite (j6)
 (.bnd (getI p0 1) fun x3 ex3 =>
 .bnd (i_quoted x3) fun r3 er3 =>
 .bnd (getI p0 2) fun x4 ex4 =>
 .bnd (i_quoted x4) fun r4 er4 =>
 .drawn [10] [(1, .idx eStr ex3), (3, .call (k_i_quoted x3 r3 er3) Tryd.call42), (5, .idx eStr ex4), (7, .call (k_i_quoted x4 r4 er4) Tryd.call42)] (ms 130 [(2, pV 2)] [(2, [.bx [iC 2, iC 2, sC r3, sC r4, sC ((⟨#[]⟩ : ByteArray)), sC ((⟨#[]⟩ : ByteArray)), iC 0, bC false]])]) <|
 .ret ((⟨2, (⟨2, r3, r4, (⟨(⟨#[]⟩ : ByteArray), (⟨#[]⟩ : ByteArray)⟩ : Range), 0, false⟩ : Ask)⟩ : Call)))
 (.jn false (ι := Bool) (fun j => ms 130 [(0, lV 1 eStr p0), (2, pV 2), (89, bV j)] [(2, [.bx [iC 0, iC 0, sC ((⟨#[]⟩ : ByteArray)), sC ((⟨#[]⟩ : ByteArray)), sC ((⟨#[]⟩ : ByteArray)), sC ((⟨#[]⟩ : ByteArray)), iC 0, bC false]])])
 (.p 4 <|
 .cut 93 (((((((p0).map eStr).length : Nat) : Int)) == 4))
 (.p 1 <|
 .bnd (getI p0 0) fun x5 ex5 =>
 .s (.idx eStr ex5) <|
 .p 3 <|
 .cut 98 ((x5.toList == ((⟨#[115, 99, 97, 110]⟩ : ByteArray)).toList))
 (.p 7 <|
 .ret true)
 (.p 1 <|
 .bnd (getI p0 0) fun x6 ex6 =>
 .s (.idx eStr ex6) <|
 .p 5 <|
 .ret ((x6.toList == ((⟨#[98, 97, 99, 107]⟩ : ByteArray)).toList))))
 (.p 12 <|
 .ret false)) fun j7 =>
 .ite (j7)
 (.bnd (getI p0 1) fun x5 ex5 =>
 .bnd (i_quoted x5) fun r5 er5 =>
 .bnd (getI p0 2) fun x6 ex6 =>
 .bnd (i_quoted x6) fun r6 er6 =>
 .bnd (getI p0 0) fun x7 ex7 =>
 .drawn [15] [(1, .idx eStr ex5), (3, .call (k_i_quoted x5 r5 er5) Tryd.call42), (5, .idx eStr ex6), (7, .call (k_i_quoted x6 r6 er6) Tryd.call42), (10, .idx eStr ex7)] (ms 130 [(0, lV 1 eStr p0), (2, pV 2), (3, pV 3)] [(2, [.bx [iC 0, iC 0, sC ((⟨#[]⟩ : ByteArray)), sC ((⟨#[]⟩ : ByteArray)), sC ((⟨#[]⟩ : ByteArray)), sC ((⟨#[]⟩ : ByteArray)), iC 0, bC false]]), (3, [.bx [iC 4, sC ((⟨#[]⟩ : ByteArray)), sC ((⟨#[]⟩ : ByteArray)), sC r5, sC r6, iC 0, bC ((x7.toList == ((⟨#[98, 97, 99, 107]⟩ : ByteArray)).toList))]])]) <|
 .p 1 <|
 .bnd (getI p0 3) fun x8 ex8 =>
 .s (.idx eStr ex8) <|
 .p 1 <|
 .bnd (i_TextNum x8) fun r7 er7 =>
 .s (.call (k_i_TextNum x8 r7 er7) Tryd.call22) <|
 .p 8 <|
 .ret ((⟨2, (⟨4, (⟨#[]⟩ : ByteArray), (⟨#[]⟩ : ByteArray), (⟨r5, r6⟩ : Range), r7.1, (x7.toList == ((⟨#[98, 97, 99, 107]⟩ : ByteArray)).toList)⟩ : Ask)⟩ : Call)))
 (.p 2 <|
 .ret ((⟨0, (⟨0, (⟨#[]⟩ : ByteArray), (⟨#[]⟩ : ByteArray), (⟨(⟨#[]⟩ : ByteArray), (⟨#[]⟩ : ByteArray)⟩ : Range), 0, false⟩ : Ask)⟩ : Call)))))))))
/-- impl.textCall -/
noncomputable def i_textCall (p0 : (List ByteArray)) : Option (Call) := (wi_textCall p0).den
theorem k_i_textCall (p0 : (List ByteArray)) (v : Call) (h : i_textCall p0 = some v) : CallOK Tryd.prog 23 [lV 1 eStr p0] (.agg [.c (iC v.kind), .c (iC v.ask.kind), .c (sC v.ask.key), .c (sC v.ask.val), .c (sC v.ask.range.lo), .c (sC v.ask.range.hi), .c (iC v.ask.most), .c (bC v.ask.back)]) [] :=
  (wi_textCall p0).call tyOK Tryd.func23 rfl (res := (fun v : Call => .agg [.c (iC v.kind), .c (iC v.ask.kind), .c (sC v.ask.key), .c (sC v.ask.val), .c (sC v.ask.range.lo), .c (sC v.ask.range.hi), .c (iC v.ask.most), .c (bC v.ask.back)])) (row := (fun v : Call => [])) (by kernel_rfl) h

noncomputable def wi_UserOk (p0 : ByteArray) : Wk (Bool) :=
 .p 3 <|
 .bnd (i_within ((p0.size : Int)) 1 8) fun r1 er1 =>
 .s (.call (k_i_within ((p0.size : Int)) 1 8 r1 er1) Tryd.call40) <|
 .p 1 <|
 .ret r1
/-- impl.UserOk -/
noncomputable def i_UserOk (p0 : ByteArray) : Option (Bool) := (wi_UserOk p0).den
theorem k_i_UserOk (p0 : ByteArray) (v : Bool) (h : i_UserOk p0 = some v) : CallOK Tryd.prog 71 [sV p0] (bV v) [] :=
  (wi_UserOk p0).call tyOK Tryd.func71 rfl (res := (fun v : Bool => bV v)) (row := (fun v : Bool => [])) (by kernel_rfl) h

noncomputable def wi_UvalOk (p0 : ByteArray) : Wk (Bool) :=
 .p 5 <|
 .ret (decide (((p0.size : Int)) ≤ 20))
/-- impl.UvalOk -/
noncomputable def i_UvalOk (p0 : ByteArray) : Option (Bool) := (wi_UvalOk p0).den
theorem k_i_UvalOk (p0 : ByteArray) (v : Bool) (h : i_UvalOk p0 = some v) : CallOK Tryd.prog 72 [sV p0] (bV v) [] :=
  (wi_UvalOk p0).call tyOK Tryd.func72 rfl (res := (fun v : Bool => bV v)) (row := (fun v : Bool => [])) (by kernel_rfl) h

noncomputable def wi_RangeOk (p0 : Range) : Wk (Bool) :=
 .p 2 <|
 .jn false (ι := Bool) (fun j => ms 25 [(2, bV j)] [])
 (.p 5 <|
 .cut 7 (decide (((p0.lo.size : Int)) ≤ 17))
 (.p 6 <|
 .cut 13 (decide (((p0.hi.size : Int)) ≤ 17))
 (.p 4 <|
 .cut 17 ((p0.hi.toList == ((⟨#[]⟩ : ByteArray)).toList))
 (.p 8 <|
 .ret true)
 (.p 8 <|
 .ret (!(Op.bytesLess p0.hi.toList p0.lo.toList || p0.hi.toList == p0.lo.toList))))
 (.p 12 <|
 .ret false))
 (.p 18 <|
 .ret false)) fun j1 =>
 .ret j1
/-- impl.RangeOk -/
noncomputable def i_RangeOk (p0 : Range) : Option (Bool) := (wi_RangeOk p0).den
theorem k_i_RangeOk (p0 : Range) (v : Bool) (h : i_RangeOk p0 = some v) : CallOK Tryd.prog 84 [.agg [.c (sC p0.lo), .c (sC p0.hi)]] (bV v) [] :=
  (wi_RangeOk p0).call tyOK Tryd.func84 rfl (res := (fun v : Bool => bV v)) (row := (fun v : Bool => [])) (by kernel_rfl) h

noncomputable def wi_ReachOk (p0 : Range) : Wk (Bool) :=
 .p 2 <|
 .jn false (ι := Bool) (fun j => ms 17 [(2, bV j)] [])
 (.p 1 <|
 .bnd (i_RangeOk p0) fun r1 er1 =>
 .s (.call (k_i_RangeOk p0 r1 er1) Tryd.call84) <|
 .p 1 <|
 .cut 5 (r1)
 (.p 6 <|
 .cut 11 (decide (((p0.lo.size : Int)) ≤ 9))
 (.p 6 <|
 .ret (decide (((p0.hi.size : Int)) ≤ 9)))
 (.p 6 <|
 .ret false))
 (.p 12 <|
 .ret false)) fun j1 =>
 .ret j1
/-- impl.ReachOk -/
noncomputable def i_ReachOk (p0 : Range) : Option (Bool) := (wi_ReachOk p0).den
theorem k_i_ReachOk (p0 : Range) (v : Bool) (h : i_ReachOk p0 = some v) : CallOK Tryd.prog 73 [.agg [.c (sC p0.lo), .c (sC p0.hi)]] (bV v) [] :=
  (wi_ReachOk p0).call tyOK Tryd.func73 rfl (res := (fun v : Bool => bV v)) (row := (fun v : Bool => [])) (by kernel_rfl) h

noncomputable def wi_AskOk (p0 : Ask) : Wk (Bool) :=
 .p 4 <|
 .eb <|
 .p 2 <|
 .jn false (ι := Bool) (fun j => ms 61 [(1, pV 1), (4, iV p0.kind), (5, bV j)] [(1, [.bx [iC p0.kind, sC p0.key, sC p0.val, sC p0.range.lo, sC p0.range.hi, iC p0.most, bC p0.back]])])
 (.ite ((p0.kind == 1))
 (.ret ((p0.kind == 1)))
 (.p 2 <|
 .ret ((p0.kind == 3)))) fun j1 =>
 .ite (j1)
 (.jn false (ι := Bool) (fun j => ms 61 [(2, bV j)] [])
 (.p 2 <|
 .bnd (i_UserOk p0.key) fun r1 er1 =>
 .s (.call (k_i_UserOk p0.key r1 er1) Tryd.call71) <|
 .p 1 <|
 .cut 11 (r1)
 (.p 9 <|
 .ret (((p0.kind == p0.kind) && ((p0.key.toList == p0.key.toList) && ((p0.val.toList == ((⟨#[]⟩ : ByteArray)).toList) && ((p0.range.lo.toList == ((⟨#[]⟩ : ByteArray)).toList) && ((p0.range.hi.toList == ((⟨#[]⟩ : ByteArray)).toList) && ((p0.most == 0) && ((p0.back == false) && true)))))))))
 (.p 9 <|
 .ret false)) fun j2 =>
 .ret j2)
 (.p 2 <|
 .ite ((p0.kind == 2))
 (.jn false (ι := Bool) (fun j => ms 61 [(2, bV j)] [])
 (.p 2 <|
 .bnd (i_UserOk p0.key) fun r2 er2 =>
 .s (.call (k_i_UserOk p0.key r2 er2) Tryd.call71) <|
 .p 1 <|
 .cut 25 (r2)
 (.p 2 <|
 .bnd (i_UvalOk p0.val) fun r3 er3 =>
 .s (.call (k_i_UvalOk p0.val r3 er3) Tryd.call72) <|
 .p 2 <|
 .cut 30 (r3)
 (.p 11 <|
 .ret (((p0.kind == p0.kind) && ((p0.key.toList == p0.key.toList) && ((p0.val.toList == p0.val.toList) && ((p0.range.lo.toList == ((⟨#[]⟩ : ByteArray)).toList) && ((p0.range.hi.toList == ((⟨#[]⟩ : ByteArray)).toList) && ((p0.most == 0) && ((p0.back == false) && true)))))))))
 (.p 11 <|
 .ret false))
 (.p 16 <|
 .ret false)) fun j3 =>
 .ret j3)
 (.p 2 <|
 .ite ((p0.kind == 4))
 (.jn false (ι := Bool) (fun j => ms 61 [(2, bV j)] [])
 (.p 2 <|
 .bnd (i_ReachOk p0.range) fun r3 er3 =>
 .s (.call (k_i_ReachOk p0.range r3 er3) Tryd.call73) <|
 .p 1 <|
 .cut 46 (r3)
 (.p 2 <|
 .bnd (i_within p0.most 1 8) fun r4 er4 =>
 .s (.call (k_i_within p0.most 1 8 r4 er4) Tryd.call40) <|
 .p 2 <|
 .cut 51 (r4)
 (.p 5 <|
 .cut 56 ((p0.key.toList == ((⟨#[]⟩ : ByteArray)).toList))
 (.p 5 <|
 .ret ((p0.val.toList == ((⟨#[]⟩ : ByteArray)).toList)))
 (.p 5 <|
 .ret false))
 (.p 10 <|
 .ret false))
 (.p 15 <|
 .ret false)) fun j4 =>
 .ret j4)
 (.p 1 <|
 .ret false)))
/-- impl.AskOk -/
noncomputable def i_AskOk (p0 : Ask) : Option (Bool) := (wi_AskOk p0).den
theorem k_i_AskOk (p0 : Ask) (v : Bool) (h : i_AskOk p0 = some v) : CallOK Tryd.prog 56 [.agg [.c (iC p0.kind), .c (sC p0.key), .c (sC p0.val), .c (sC p0.range.lo), .c (sC p0.range.hi), .c (iC p0.most), .c (bC p0.back)]] (bV v) [] :=
  (wi_AskOk p0).call tyOK Tryd.func56 rfl (res := (fun v : Bool => bV v)) (row := (fun v : Bool => [])) (by kernel_rfl) h

noncomputable def wi_CallOk (p0 : Call) : Wk (Bool) :=
 .p 5 <|
 .ite ((p0.kind == 2))
 (.p 2 <|
 .bnd (i_AskOk p0.ask) fun r1 er1 =>
 .s (.call (k_i_AskOk p0.ask r1 er1) Tryd.call56) <|
 .p 1 <|
 .ret r1)
 (.jn false (ι := Bool) (fun j => ms 18 [(2, bV j)] [])
 (.p 2 <|
 .bnd (i_within p0.kind 1 4) fun r2 er2 =>
 .s (.call (k_i_within p0.kind 1 4 r2 er2) Tryd.call40) <|
 .p 1 <|
 .cut 12 (r2)
 (.p 6 <|
 .ret (((p0.ask.kind == 0) && ((p0.ask.key.toList == ((⟨#[]⟩ : ByteArray)).toList) && ((p0.ask.val.toList == ((⟨#[]⟩ : ByteArray)).toList) && ((p0.ask.range.lo.toList == ((⟨#[]⟩ : ByteArray)).toList) && ((p0.ask.range.hi.toList == ((⟨#[]⟩ : ByteArray)).toList) && ((p0.ask.most == 0) && ((p0.ask.back == false) && true)))))))))
 (.p 6 <|
 .ret false)) fun j1 =>
 .ret j1)
/-- impl.CallOk -/
noncomputable def i_CallOk (p0 : Call) : Option (Bool) := (wi_CallOk p0).den
theorem k_i_CallOk (p0 : Call) (v : Bool) (h : i_CallOk p0 = some v) : CallOK Tryd.prog 43 [.agg [.c (iC p0.kind), .c (iC p0.ask.kind), .c (sC p0.ask.key), .c (sC p0.ask.val), .c (sC p0.ask.range.lo), .c (sC p0.ask.range.hi), .c (iC p0.ask.most), .c (bC p0.ask.back)]] (bV v) [] :=
  (wi_CallOk p0).call tyOK Tryd.func43 rfl (res := (fun v : Bool => bV v)) (row := (fun v : Bool => [])) (by kernel_rfl) h

noncomputable def wi_askWords (p0 : Ask) : Wk ((List ByteArray)) :=
 .p 4 <|
 .eb <|
 .p 2 <|
 .ite ((p0.kind == 1))
 (.p 2 <|
 .bnd (i_Quote p0.key) fun r1 er1 =>
 .s (.call (k_i_Quote p0.key r1 er1) Tryd.call70) <|
 .p 2 <|
 .ret ([(⟨#[103, 101, 116]⟩ : ByteArray), r1]))
 (.p 2 <|
 .ite ((p0.kind == 2))
 (.bnd (i_Quote p0.key) fun r2 er2 =>
 .bnd (i_Quote p0.val) fun r3 er3 =>
 .drawn [] [(2, .call (k_i_Quote p0.key r2 er2) Tryd.call70), (5, .call (k_i_Quote p0.val r3 er3) Tryd.call70)] (ms 42 [(2, .one (.so [] 20 0 3))] [(20, [.sl 1 ([[sC ((⟨#[112, 117, 116]⟩ : ByteArray))], [sC r2], [sC r3]])])]) <|
 .ret ([(⟨#[112, 117, 116]⟩ : ByteArray), r2, r3]))
 (.p 2 <|
 .ite ((p0.kind == 3))
 (.p 2 <|
 .bnd (i_Quote p0.key) fun r4 er4 =>
 .s (.call (k_i_Quote p0.key r4 er4) Tryd.call70) <|
 .p 2 <|
 .ret ([(⟨#[100, 101, 108]⟩ : ByteArray), r4]))
 (.p 3 <|
 .jn false (ι := ByteArray) (fun j => ms 42 [(1, pV 1), (3, sV j)] [(1, [.bx [iC p0.kind, sC p0.key, sC p0.val, sC p0.range.lo, sC p0.range.hi, iC p0.most, bC p0.back]])])
 (.ite (p0.back)
 (.p 1 <|
 .ret ((⟨#[98, 97, 99, 107]⟩ : ByteArray)))
 (.ret ((⟨#[115, 99, 97, 110]⟩ : ByteArray)))) fun j1 =>
 .bnd (i_Quote p0.range.lo) fun r5 er5 =>
 .bnd (i_Quote p0.range.hi) fun r6 er6 =>
 .bnd (i_NumText p0.most) fun r7 er7 =>
 .drawn [] [(4, .call (k_i_Quote p0.range.lo r5 er5) Tryd.call70), (8, .call (k_i_Quote p0.range.hi r6 er6) Tryd.call70), (11, .call (k_i_NumText p0.most r7 er7) Tryd.call41)] (ms 42 [(2, .one (.so [] 41 0 4))] [(41, [.sl 1 ([[sC j1], [sC r5], [sC r6], [sC r7]])])]) <|
 .ret ([j1, r5, r6, r7]))))
/-- impl.askWords -/
noncomputable def i_askWords (p0 : Ask) : Option ((List ByteArray)) := (wi_askWords p0).den
theorem k_i_askWords (p0 : Ask) (v : (List ByteArray)) (h : i_askWords p0 = some v) : CallOK Tryd.prog 57 [.agg [.c (iC p0.kind), .c (sC p0.key), .c (sC p0.val), .c (sC p0.range.lo), .c (sC p0.range.hi), .c (iC p0.most), .c (bC p0.back)]] (.one (.so [] 0 0 (((v).map eStr).length))) [lC 1 eStr v] :=
  (wi_askWords p0).call tyOK Tryd.func57 rfl (res := (fun v : (List ByteArray) => .one (.so [] 0 0 (((v).map eStr).length)))) (row := (fun v : (List ByteArray) => [lC 1 eStr v])) (by kernel_rfl) h

noncomputable def wi_callWords (p0 : Call) : Wk ((List ByteArray)) :=
 .p 4 <|
 .eb <|
 .p 2 <|
 .ite ((p0.kind == 1))
 (.p 2 <|
 .ret ([(⟨#[98, 101, 103, 105, 110]⟩ : ByteArray)]))
 (.p 2 <|
 .ite ((p0.kind == 3))
 (.p 2 <|
 .ret ([(⟨#[99, 111, 109, 109, 105, 116]⟩ : ByteArray)]))
 (.p 2 <|
 .ite ((p0.kind == 4))
 (.p 2 <|
 .ret ([(⟨#[97, 98, 111, 114, 116]⟩ : ByteArray)]))
 (.p 2 <|
 .bnd (i_askWords p0.ask) fun r1 er1 =>
 .s (.call (k_i_askWords p0.ask r1 er1) Tryd.call57) <|
 .p 1 <|
 .ret r1)))
/-- impl.callWords -/
noncomputable def i_callWords (p0 : Call) : Option ((List ByteArray)) := (wi_callWords p0).den
theorem k_i_callWords (p0 : Call) (v : (List ByteArray)) (h : i_callWords p0 = some v) : CallOK Tryd.prog 44 [.agg [.c (iC p0.kind), .c (iC p0.ask.kind), .c (sC p0.ask.key), .c (sC p0.ask.val), .c (sC p0.ask.range.lo), .c (sC p0.ask.range.hi), .c (iC p0.ask.most), .c (bC p0.ask.back)]] (.one (.so [] 0 0 (((v).map eStr).length))) [lC 1 eStr v] :=
  (wi_callWords p0).call tyOK Tryd.func44 rfl (res := (fun v : (List ByteArray) => .one (.so [] 0 0 (((v).map eStr).length)))) (row := (fun v : (List ByteArray) => [lC 1 eStr v])) (by kernel_rfl) h

structure Si_StepText_1 where
  v5 : (List ByteArray)
  v95 : Int

noncomputable def Bi_StepText_1 (p0 : Step) (s1 : Si_StepText_1) : Wk (Si_StepText_1 ⊕ (List ByteArray)) :=
 .p 1 <|
 .ite (decide (s1.v95 < (((((p0.keep).map eInt).length : Nat) : Int))))
 (.eb <|
 .bnd (getI p0.keep s1.v95) fun x1 ex1 =>
 .s (.idx eInt ex1) <|
 .p 4 <|
 .bnd (i_NumText x1) fun r6 er6 =>
 .s (.call (k_i_NumText x1 r6 er6) Tryd.call41) <|
 .p 1 <|
 .chk (((s1.v5).length + (([r6] : List ByteArray)).length) * 16 ≤ 140737488355328) fun c3 =>
 .s (.app eStr .lit c3) <|
 .p 3 <|
 .im (.ren 103 5 5) <|
 .ret (.inl ((⟨s1.v5 ++ ([r6] : List ByteArray), IntKind.wrap .i64 (s1.v95 + 1)⟩ : Si_StepText_1))))
 (.ret (.inr s1.v5))

noncomputable def Bi_StepText_2 (j7 : (List ByteArray)) (s2 : Int) : Wk (Int ⊕ (Unit ⊕ (ByteArray))) :=
 .p 1 <|
 .ite (decide (s2 < (((((j7).map eStr).length : Nat) : Int))))
 (.eb <|
 .bnd (getI j7 s2) fun x2 ex2 =>
 .s (.ixo eStr ex2) <|
 .s (.ld eStr (getI_e ex2).2) <|
 .p 3 <|
 .ite ((x2.toList == ((⟨#[]⟩ : ByteArray)).toList))
 (.p 1 <|
 .ret (.inr (.inr ((⟨#[]⟩ : ByteArray)))))
 (.p 2 <|
 .ret (.inl (IntKind.wrap .i64 (s2 + 1)))))
 (.ret (.inr (.inl (()))))

noncomputable def wi_StepText (p0 : Step) : Wk (ByteArray) :=
 .p 8 <|
 .bnd (i_wordOf p0.kind) fun r1 er1 =>
 .s (.call (k_i_wordOf p0.kind r1 er1) Tryd.call21) <|
 .p 1 <|
 .jn false (ι := Bool) (fun j => ms 116 [(1, pV 1), (4, sV r1), (38, bV j)] [(1, [.bx [iC p0.kind, iC p0.a, iC p0.b, .fz (lC 1 eInt p0.keep), iC p0.call.kind, iC p0.call.ask.kind, sC p0.call.ask.key, sC p0.call.ask.val, sC p0.call.ask.range.lo, sC p0.call.ask.range.hi, iC p0.call.ask.most, bC p0.call.ask.back]])])
 (.p 7 <|
 .cut 22 (!(((p0.kind == 1)) == (!((p0.call.kind == 0) && ((p0.call.ask.kind == 0) && ((p0.call.ask.key.toList == ((⟨#[]⟩ : ByteArray)).toList) && ((p0.call.ask.val.toList == ((⟨#[]⟩ : ByteArray)).toList) && ((p0.call.ask.range.lo.toList == ((⟨#[]⟩ : ByteArray)).toList) && ((p0.call.ask.range.hi.toList == ((⟨#[]⟩ : ByteArray)).toList) && ((p0.call.ask.most == 0) && ((p0.call.ask.back == false) && true)))))))))))
 (.p 16 <|
 .ret true)
 (.p 2 <|
 .cut 24 ((p0.kind == 1))
 (.p 2 <|
 .bnd (i_CallOk p0.call) fun r2 er2 =>
 .s (.call (k_i_CallOk p0.call r2 er2) Tryd.call43) <|
 .p 4 <|
 .cut 31 (!r2)
 (.p 7 <|
 .ret true)
 (.p 3 <|
 .cut 34 (!((p0.kind == 1)))
 (.p 4 <|
 .ret ((r1.toList == ((⟨#[]⟩ : ByteArray)).toList)))
 (.p 4 <|
 .ret false)))
 (.p 10 <|
 .cut 34 (!((p0.kind == 1)))
 (.p 4 <|
 .ret ((r1.toList == ((⟨#[]⟩ : ByteArray)).toList)))
 (.p 4 <|
 .ret false)))) fun j1 =>
 .ite (j1)
 (.p 1 <|
 .ret ((⟨#[]⟩ : ByteArray)))
 (.jn false (ι := Bool) (fun j => ms 116 [(1, pV 1), (4, sV r1), (62, bV j)] [(1, [.bx [iC p0.kind, iC p0.a, iC p0.b, .fz (lC 1 eInt p0.keep), iC p0.call.kind, iC p0.call.ask.kind, sC p0.call.ask.key, sC p0.call.ask.val, sC p0.call.ask.range.lo, sC p0.call.ask.range.hi, iC p0.call.ask.most, bC p0.call.ask.back]])])
 (.p 4 <|
 .cut 42 ((p0.kind != 7))
 (.p 4 <|
 .cut 46 ((p0.b != 0))
 (.p 16 <|
 .ret true)
 (.p 7 <|
 .cut 53 (decide ((((((p0.keep).map eInt).length : Nat) : Int)) > 0))
 (.p 9 <|
 .ret true)
 (.p 4 <|
 .cut 57 ((p0.kind == 5))
 (.p 5 <|
 .ret ((p0.a != 0)))
 (.p 5 <|
 .ret false))))
 (.p 15 <|
 .cut 57 ((p0.kind == 5))
 (.p 5 <|
 .ret ((p0.a != 0)))
 (.p 5 <|
 .ret false))) fun j2 =>
 .ite (j2)
 (.p 1 <|
 .ret ((⟨#[]⟩ : ByteArray)))
 (.p 3 <|
 .bnd (i_NumText p0.a) fun r2 er2 =>
 .s (.call (k_i_NumText p0.a r2 er2) Tryd.call41) <|
 .p 4 <|
 .jn true (ι := (List ByteArray)) (fun j => ms 116 [(5, .one (.so [] 5 0 (((j).map eStr).length)))] [(5, [lC 1 eStr j])])
 (.eb <|
 .p 2 <|
 .jn false (ι := (List ByteArray)) (fun j => ms 116 [(5, .one (.so [] 5 0 (((j).map eStr).length)))] [(5, [lC 1 eStr j])])
 (.ite ((p0.kind == 1))
 (.bnd (i_NumText p0.a) fun r3 er3 =>
 .bnd (i_callWords p0.call) fun r4 er4 =>
 .chk (((([(⟨#[99, 97, 108, 108]⟩ : ByteArray), r3] : List ByteArray)).length + (r4).length) * 16 ≤ 140737488355328) fun c1 =>
 .drawn [7] [(2, .call (k_i_NumText p0.a r3 er3) Tryd.call41), (6, .call (k_i_callWords p0.call r4 er4) Tryd.call44), (7, .app eStr .own c1)] (ms 116 [(5, .one (.so [] 79 0 (((([(⟨#[99, 97, 108, 108]⟩ : ByteArray), r3] : List ByteArray) ++ r4).map eStr).length)))] [(79, [lC 1 eStr (([(⟨#[99, 97, 108, 108]⟩ : ByteArray), r3] : List ByteArray) ++ r4)])]) <|
 .im (.ren 79 5 5) <|
 .ret (([(⟨#[99, 97, 108, 108]⟩ : ByteArray), r3] : List ByteArray) ++ r4))
 (.p 2 <|
 .jn false (ι := (List ByteArray)) (fun j => ms 116 [(5, .one (.so [] 5 0 (((j).map eStr).length)))] [(5, [lC 1 eStr j])])
 (.ite ((p0.kind == 5))
 (.p 1 <|
 .chk (0 ≤ (0 : Int) ∧ (0 : Int) ≤ 1 ∧ 1 ≤ ((2 : Nat) : Int)) fun c2 =>
 .s (.cut eStr (([r1, r2] : List ByteArray)) (r := 1) (n0 := 2) (by have := c2; simp at this ⊢ <;> omega) (by have := c2; simp at this ⊢ <;> omega)) <|
 .p 1 <|
 .im (.ren 83 5 5) <|
 .ret ((([r1, r2] : List ByteArray)).take (1 : Int).toNat))
 (.p 2 <|
 .jn false (ι := (List ByteArray)) (fun j => ms 116 [(5, .one (.so [] 5 0 (((j).map eStr).length)))] [(5, [lC 1 eStr j])])
 (.ite ((p0.kind == 7))
 (.p 3 <|
 .bnd (i_NumText p0.b) fun r5 er5 =>
 .s (.call (k_i_NumText p0.b r5 er5) Tryd.call41) <|
 .p 7 <|
 .jn true (ι := (List ByteArray)) (fun j => ms 116 [(5, .one (.so [] 5 0 (((j).map eStr).length)))] [(5, [lC 1 eStr j])])
 (.eb <|
 .im (.ren 91 5 5) <|
 .loop (σ := Si_StepText_1) (fun s1 => ms 116 [(5, .one (.so [] 5 0 (((s1.v5).map eStr).length))), (93, lV 1 eInt p0.keep), (94, iV (((((p0.keep).map eInt).length : Nat) : Int))), (95, iV s1.v95)] [(5, [lC 1 eStr s1.v5])]) ((⟨[r1, r2, r5], 0⟩ : Si_StepText_1)) (Bi_StepText_1 p0)) fun j3 =>
 .ret j3)
 (.im (.ren 67 5 5) <|
 .ret ([r1, r2]))) fun j4 =>
 .ret j4)) fun j5 =>
 .ret j5)) fun j6 =>
 .ret j6) fun j7 =>
 .p 3 <|
 .join true (ι := Unit) (fun j => ms 116 [(5, .one (.so [] 5 0 (((j7).map eStr).length)))] [(5, [lC 1 eStr j7])])
 (.eb <|
 .loop (σ := Int) (fun s2 => ms 116 [(5, .one (.so [] 5 0 (((j7).map eStr).length))), (105, .one (.so [] 5 0 (((j7).map eStr).length))), (106, iV (((((j7).map eStr).length : Nat) : Int))), (107, iV s2)] [(5, [lC 1 eStr j7])]) 0 (Bi_StepText_2 j7)) fun j8 =>
 .p 1 <|
 .bnd (st_Join j7 ((⟨#[32]⟩ : ByteArray))) fun r7 er7 =>
 .s (.lend (k_st_Join j7 ((⟨#[32]⟩ : ByteArray)) r7 er7) Tryd.call45 (clean_nil)) <|
 .p 1 <|
 .ret r7))
/-- impl.StepText -/
noncomputable def i_StepText (p0 : Step) : Option (ByteArray) := (wi_StepText p0).den
theorem k_i_StepText (p0 : Step) (v : ByteArray) (h : i_StepText p0 = some v) : CallOK Tryd.prog 24 [.agg [.c (iC p0.kind), .c (iC p0.a), .c (iC p0.b), .c (lC 1 eInt p0.keep), .c (iC p0.call.kind), .c (iC p0.call.ask.kind), .c (sC p0.call.ask.key), .c (sC p0.call.ask.val), .c (sC p0.call.ask.range.lo), .c (sC p0.call.ask.range.hi), .c (iC p0.call.ask.most), .c (bC p0.call.ask.back)]] (sV v) [] :=
  (wi_StepText p0).call tyOK Tryd.func24 rfl (res := (fun v : ByteArray => sV v)) (row := (fun v : ByteArray => [])) (by kernel_rfl) h


end Go.Proofs.YtagoajkiccgmjaaDoor
namespace Go.Proofs.YtagoajkiccgmjaaDoor
open Go.Mv Go.RowKit

structure Si_TextStep_1 where
  v6 : Int
  w5_0_0 : Int

noncomputable def Bi_TextStep_1 (p0 : ByteArray) (r1 : (List ByteArray)) (s1 : Si_TextStep_1) : Wk (Si_TextStep_1 ⊕ Int) :=
 .p 2 <|
 .ite (decide (s1.v6 ≤ 9))
 (.eb <|
 .bnd (i_wordOf s1.v6) fun r2 er2 =>
 .bnd (getI r1 0) fun x1 ex1 =>
 .drawn [] [(1, .call (k_i_wordOf s1.v6 r2 er2) Tryd.call21), (3, .idx eStr ex1)] (ms 96 [(0, sV p0), (2, pV 2), (4, lV 1 eStr r1), (5, pV 5), (6, iV s1.v6), (23, bV ((r2.toList == x1.toList)))] [(2, [.bx [iC 0, iC 0, iC 0, .sl 1 ([]), iC 0, iC 0, sC ((⟨#[]⟩ : ByteArray)), sC ((⟨#[]⟩ : ByteArray)), sC ((⟨#[]⟩ : ByteArray)), sC ((⟨#[]⟩ : ByteArray)), iC 0, bC false]]), (5, [.bx [iC s1.w5_0_0, iC 0, iC 0, .sl 1 ([]), iC 0, iC 0, sC ((⟨#[]⟩ : ByteArray)), sC ((⟨#[]⟩ : ByteArray)), sC ((⟨#[]⟩ : ByteArray)), sC ((⟨#[]⟩ : ByteArray)), iC 0, bC false]])]) <|
 .jn false (ι := Int) (fun j => ms 96 [(0, sV p0), (2, pV 2), (4, lV 1 eStr r1), (5, pV 5), (6, iV s1.v6)] [(2, [.bx [iC 0, iC 0, iC 0, .sl 1 ([]), iC 0, iC 0, sC ((⟨#[]⟩ : ByteArray)), sC ((⟨#[]⟩ : ByteArray)), sC ((⟨#[]⟩ : ByteArray)), sC ((⟨#[]⟩ : ByteArray)), iC 0, bC false]]), (5, [.bx [iC j, iC 0, iC 0, .sl 1 ([]), iC 0, iC 0, sC ((⟨#[]⟩ : ByteArray)), sC ((⟨#[]⟩ : ByteArray)), sC ((⟨#[]⟩ : ByteArray)), sC ((⟨#[]⟩ : ByteArray)), iC 0, bC false]])])
 (.ite ((r2.toList == x1.toList))
 (.p 3 <|
 .ret s1.v6)
 (.ret s1.w5_0_0)) fun j1 =>
 .p 3 <|
 .ret (.inl ((⟨IntKind.wrap .i64 (s1.v6 + 1), j1⟩ : Si_TextStep_1))))
 (.ret (.inr s1.w5_0_0))

structure Xi_TextStep_5 where
  w5_0_0 : Int
  w5_0_4 : Int
  w5_0_5 : Int
  w5_0_6 : ByteArray
  w5_0_7 : ByteArray
  w5_0_8 : ByteArray
  w5_0_9 : ByteArray
  w5_0_10 : Int
  w5_0_11 : Bool

structure Xi_TextStep_7 where
  w5_0_2 : Int
  w5_0_3 : (List Int)

structure Si_TextStep_2 where
  v70 : Int
  w5_0_3 : (List Int)

noncomputable def Bi_TextStep_2 (r1 : (List ByteArray)) (s2 : Si_TextStep_2) : Wk (Si_TextStep_2 ⊕ (List Int)) :=
 .p 1 <|
 .ite (decide (s2.v70 < ((((((((r1).take (((((r1).map eStr).length : Int)).toNat)).drop 3)).map eStr).length : Nat) : Int))))
 (.eb <|
 .bnd (getI ((((r1).take (((((r1).map eStr).length : Int)).toNat)).drop 3)) s2.v70) fun x5 ex5 =>
 .s (.idx eStr ex5) <|
 .p 3 <|
 .bnd (i_TextNum x5) fun r6 er6 =>
 .s (.call (k_i_TextNum x5 r6 er6) Tryd.call22) <|
 .p 9 <|
 .chk (((s2.w5_0_3).length + (([r6.1] : List Int)).length) * 8 ≤ 140737488355328) fun c3 =>
 .s (.app eInt .lit c3) <|
 .p 1 <|
 .s (.o) <|
 .p 2 <|
 .ret (.inl ((⟨IntKind.wrap .i64 (s2.v70 + 1), s2.w5_0_3 ++ ([r6.1] : List Int)⟩ : Si_TextStep_2))))
 (.ret (.inr s2.w5_0_3))

noncomputable def wi_TextStep (p0 : ByteArray) : Wk (Step × Bool) :=
 .p 3 <|
 .bnd (st_Split p0 ((⟨#[32]⟩ : ByteArray))) fun r1 er1 =>
 .s (.call (k_st_Split p0 ((⟨#[32]⟩ : ByteArray)) r1 er1) Tryd.call20) <|
 .p 5 <|
 .jn true (ι := Int) (fun j => ms 96 [(0, sV p0), (2, pV 2), (4, lV 1 eStr r1), (5, pV 5)] [(2, [.bx [iC 0, iC 0, iC 0, .sl 1 ([]), iC 0, iC 0, sC ((⟨#[]⟩ : ByteArray)), sC ((⟨#[]⟩ : ByteArray)), sC ((⟨#[]⟩ : ByteArray)), sC ((⟨#[]⟩ : ByteArray)), iC 0, bC false]]), (5, [.bx [iC j, iC 0, iC 0, .sl 1 ([]), iC 0, iC 0, sC ((⟨#[]⟩ : ByteArray)), sC ((⟨#[]⟩ : ByteArray)), sC ((⟨#[]⟩ : ByteArray)), sC ((⟨#[]⟩ : ByteArray)), iC 0, bC false]])])
 (.eb <|
 .loop (σ := Si_TextStep_1) (fun s1 => ms 96 [(0, sV p0), (2, pV 2), (4, lV 1 eStr r1), (5, pV 5), (6, iV s1.v6)] [(2, [.bx [iC 0, iC 0, iC 0, .sl 1 ([]), iC 0, iC 0, sC ((⟨#[]⟩ : ByteArray)), sC ((⟨#[]⟩ : ByteArray)), sC ((⟨#[]⟩ : ByteArray)), sC ((⟨#[]⟩ : ByteArray)), iC 0, bC false]]), (5, [.bx [iC s1.w5_0_0, iC 0, iC 0, .sl 1 ([]), iC 0, iC 0, sC ((⟨#[]⟩ : ByteArray)), sC ((⟨#[]⟩ : ByteArray)), sC ((⟨#[]⟩ : ByteArray)), sC ((⟨#[]⟩ : ByteArray)), iC 0, bC false]])]) ((⟨2, 0⟩ : Si_TextStep_1)) (Bi_TextStep_1 p0 r1)) fun j2 =>
 .p 3 <|
 .jn false (ι := Int) (fun j => ms 96 [(0, sV p0), (2, pV 2), (4, lV 1 eStr r1), (5, pV 5)] [(2, [.bx [iC 0, iC 0, iC 0, .sl 1 ([]), iC 0, iC 0, sC ((⟨#[]⟩ : ByteArray)), sC ((⟨#[]⟩ : ByteArray)), sC ((⟨#[]⟩ : ByteArray)), sC ((⟨#[]⟩ : ByteArray)), iC 0, bC false]]), (5, [.bx [iC j2, iC j, iC 0, .sl 1 ([]), iC 0, iC 0, sC ((⟨#[]⟩ : ByteArray)), sC ((⟨#[]⟩ : ByteArray)), sC ((⟨#[]⟩ : ByteArray)), sC ((⟨#[]⟩ : ByteArray)), iC 0, bC false]])])
 (.ite (decide ((((((r1).map eStr).length : Nat) : Int)) > 1))
 (.p 1 <|
 .bnd (getI r1 1) fun x2 ex2 =>
 .s (.idx eStr ex2) <|
 .p 1 <|
 .bnd (i_TextNum x2) fun r3 er3 =>
 .s (.call (k_i_TextNum x2 r3 er3) Tryd.call22) <|
 .p 5 <|
 .ret r3.1)
 (.ret 0)) fun j3 =>
 .jn false (ι := Bool) (fun j => ms 96 [(0, sV p0), (2, pV 2), (4, lV 1 eStr r1), (5, pV 5), (45, bV j)] [(2, [.bx [iC 0, iC 0, iC 0, .sl 1 ([]), iC 0, iC 0, sC ((⟨#[]⟩ : ByteArray)), sC ((⟨#[]⟩ : ByteArray)), sC ((⟨#[]⟩ : ByteArray)), sC ((⟨#[]⟩ : ByteArray)), iC 0, bC false]]), (5, [.bx [iC j2, iC j3, iC 0, .sl 1 ([]), iC 0, iC 0, sC ((⟨#[]⟩ : ByteArray)), sC ((⟨#[]⟩ : ByteArray)), sC ((⟨#[]⟩ : ByteArray)), sC ((⟨#[]⟩ : ByteArray)), iC 0, bC false]])])
 (.p 1 <|
 .bnd (getI r1 0) fun x3 ex3 =>
 .s (.idx eStr ex3) <|
 .p 3 <|
 .cut 41 ((x3.toList == ((⟨#[99, 97, 108, 108]⟩ : ByteArray)).toList))
 (.p 4 <|
 .ret (decide ((((((r1).map eStr).length : Nat) : Int)) > 2)))
 (.p 4 <|
 .ret false)) fun j4 =>
 .jn false (ι := Xi_TextStep_5) (fun j => ms 96 [(0, sV p0), (2, pV 2), (4, lV 1 eStr r1), (5, pV 5)] [(2, [.bx [iC 0, iC 0, iC 0, .sl 1 ([]), iC 0, iC 0, sC ((⟨#[]⟩ : ByteArray)), sC ((⟨#[]⟩ : ByteArray)), sC ((⟨#[]⟩ : ByteArray)), sC ((⟨#[]⟩ : ByteArray)), iC 0, bC false]]), (5, [.bx [iC j.w5_0_0, iC j3, iC 0, .sl 1 ([]), iC j.w5_0_4, iC j.w5_0_5, sC j.w5_0_6, sC j.w5_0_7, sC j.w5_0_8, sC j.w5_0_9, iC j.w5_0_10, bC j.w5_0_11]])])
 (.ite (j4)
 (.p 3 <|
 .chk (0 ≤ (2 : Int) ∧ (2 : Int) ≤ ((((r1).map eStr).length : Int)) ∧ ((((r1).map eStr).length : Int)) ≤ ((r1).length : Int)) fun c1 =>
 .s (.cutr eStr r1 c1) <|
 .bnd (i_textCall ((((r1).take (((((r1).map eStr).length : Int)).toNat)).drop 2))) fun r4 er4 =>
 .s (.call (k_i_textCall ((((r1).take (((((r1).map eStr).length : Int)).toNat)).drop 2)) r4 er4) Tryd.call23) <|
 .p 2 <|
 .ret ((⟨1, r4.kind, r4.ask.kind, r4.ask.key, r4.ask.val, r4.ask.range.lo, r4.ask.range.hi, r4.ask.most, r4.ask.back⟩ : Xi_TextStep_5)))
 (.ret ((⟨j2, 0, 0, (⟨#[]⟩ : ByteArray), (⟨#[]⟩ : ByteArray), (⟨#[]⟩ : ByteArray), (⟨#[]⟩ : ByteArray), 0, false⟩ : Xi_TextStep_5)))) fun j5 =>
 .jn false (ι := Bool) (fun j => ms 96 [(0, sV p0), (2, pV 2), (4, lV 1 eStr r1), (5, pV 5), (58, bV j)] [(2, [.bx [iC 0, iC 0, iC 0, .sl 1 ([]), iC 0, iC 0, sC ((⟨#[]⟩ : ByteArray)), sC ((⟨#[]⟩ : ByteArray)), sC ((⟨#[]⟩ : ByteArray)), sC ((⟨#[]⟩ : ByteArray)), iC 0, bC false]]), (5, [.bx [iC j5.w5_0_0, iC j3, iC 0, .sl 1 ([]), iC j5.w5_0_4, iC j5.w5_0_5, sC j5.w5_0_6, sC j5.w5_0_7, sC j5.w5_0_8, sC j5.w5_0_9, iC j5.w5_0_10, bC j5.w5_0_11]])])
 (.p 4 <|
 .cut 54 ((j5.w5_0_0 == 7))
 (.p 4 <|
 .ret (decide ((((((r1).map eStr).length : Nat) : Int)) > 2)))
 (.p 4 <|
 .ret false)) fun j6 =>
 .jn false (ι := Xi_TextStep_7) (fun j => ms 96 [(0, sV p0), (2, pV 2), (5, pV 5)] [(2, [.bx [iC 0, iC 0, iC 0, .sl 1 ([]), iC 0, iC 0, sC ((⟨#[]⟩ : ByteArray)), sC ((⟨#[]⟩ : ByteArray)), sC ((⟨#[]⟩ : ByteArray)), sC ((⟨#[]⟩ : ByteArray)), iC 0, bC false]]), (5, [.bx [iC j5.w5_0_0, iC j3, iC j.w5_0_2, lC 1 eInt j.w5_0_3, iC j5.w5_0_4, iC j5.w5_0_5, sC j5.w5_0_6, sC j5.w5_0_7, sC j5.w5_0_8, sC j5.w5_0_9, iC j5.w5_0_10, bC j5.w5_0_11]])])
 (.ite (j6)
 (.p 1 <|
 .bnd (getI r1 2) fun x4 ex4 =>
 .s (.idx eStr ex4) <|
 .p 1 <|
 .bnd (i_TextNum x4) fun r5 er5 =>
 .s (.call (k_i_TextNum x4 r5 er5) Tryd.call22) <|
 .p 6 <|
 .chk (0 ≤ (3 : Int) ∧ (3 : Int) ≤ ((((r1).map eStr).length : Int)) ∧ ((((r1).map eStr).length : Int)) ≤ ((r1).length : Int)) fun c2 =>
 .s (.cutr eStr r1 c2) <|
 .p 2 <|
 .jn true (ι := (List Int)) (fun j => ms 96 [(0, sV p0), (2, pV 2), (5, pV 5)] [(2, [.bx [iC 0, iC 0, iC 0, .sl 1 ([]), iC 0, iC 0, sC ((⟨#[]⟩ : ByteArray)), sC ((⟨#[]⟩ : ByteArray)), sC ((⟨#[]⟩ : ByteArray)), sC ((⟨#[]⟩ : ByteArray)), iC 0, bC false]]), (5, [.bx [iC j5.w5_0_0, iC j3, iC r5.1, lC 1 eInt j, iC j5.w5_0_4, iC j5.w5_0_5, sC j5.w5_0_6, sC j5.w5_0_7, sC j5.w5_0_8, sC j5.w5_0_9, iC j5.w5_0_10, bC j5.w5_0_11]])])
 (.eb <|
 .loop (σ := Si_TextStep_2) (fun s2 => ms 96 [(0, sV p0), (2, pV 2), (5, pV 5), (68, lV 1 eStr ((((r1).take (((((r1).map eStr).length : Int)).toNat)).drop 3))), (69, iV ((((((((r1).take (((((r1).map eStr).length : Int)).toNat)).drop 3)).map eStr).length : Nat) : Int))), (70, iV s2.v70)] [(2, [.bx [iC 0, iC 0, iC 0, .sl 1 ([]), iC 0, iC 0, sC ((⟨#[]⟩ : ByteArray)), sC ((⟨#[]⟩ : ByteArray)), sC ((⟨#[]⟩ : ByteArray)), sC ((⟨#[]⟩ : ByteArray)), iC 0, bC false]]), (5, [.bx [iC j5.w5_0_0, iC j3, iC r5.1, lC 1 eInt s2.w5_0_3, iC j5.w5_0_4, iC j5.w5_0_5, sC j5.w5_0_6, sC j5.w5_0_7, sC j5.w5_0_8, sC j5.w5_0_9, iC j5.w5_0_10, bC j5.w5_0_11]])]) ((⟨0, ([] : List Int)⟩ : Si_TextStep_2)) (Bi_TextStep_2 r1)) fun j7 =>
 .ret ((⟨r5.1, j7⟩ : Xi_TextStep_7)))
 (.ret ((⟨0, ([] : List Int)⟩ : Xi_TextStep_7)))) fun j8 =>
 .jn false (ι := Bool) (fun j => ms 96 [(2, pV 2), (5, pV 5), (93, bV j)] [(2, [.bx [iC 0, iC 0, iC 0, .sl 1 ([]), iC 0, iC 0, sC ((⟨#[]⟩ : ByteArray)), sC ((⟨#[]⟩ : ByteArray)), sC ((⟨#[]⟩ : ByteArray)), sC ((⟨#[]⟩ : ByteArray)), iC 0, bC false]]), (5, [.bx [iC j5.w5_0_0, iC j3, iC j8.w5_0_2, lC 1 eInt j8.w5_0_3, iC j5.w5_0_4, iC j5.w5_0_5, sC j5.w5_0_6, sC j5.w5_0_7, sC j5.w5_0_8, sC j5.w5_0_9, iC j5.w5_0_10, bC j5.w5_0_11]])])
 (.p 3 <|
 .cut 88 ((p0.toList == ((⟨#[]⟩ : ByteArray)).toList))
 (.p 5 <|
 .ret true)
 (.p 1 <|
 .bnd (i_StepText ((⟨j5.w5_0_0, j3, j8.w5_0_2, j8.w5_0_3, (⟨j5.w5_0_4, (⟨j5.w5_0_5, j5.w5_0_6, j5.w5_0_7, (⟨j5.w5_0_8, j5.w5_0_9⟩ : Range), j5.w5_0_10, j5.w5_0_11⟩ : Ask)⟩ : Call)⟩ : Step))) fun r7 er7 =>
 .s (.lend (k_i_StepText ((⟨j5.w5_0_0, j3, j8.w5_0_2, j8.w5_0_3, (⟨j5.w5_0_4, (⟨j5.w5_0_5, j5.w5_0_6, j5.w5_0_7, (⟨j5.w5_0_8, j5.w5_0_9⟩ : Range), j5.w5_0_10, j5.w5_0_11⟩ : Ask)⟩ : Call)⟩ : Step)) r7 er7) Tryd.call24 (clean_nil)) <|
 .p 3 <|
 .ret (!(r7.toList == p0.toList)))) fun j9 =>
 .ite (j9)
 (.p 3 <|
 .ret (((⟨0, 0, 0, [], (⟨0, (⟨0, (⟨#[]⟩ : ByteArray), (⟨#[]⟩ : ByteArray), (⟨(⟨#[]⟩ : ByteArray), (⟨#[]⟩ : ByteArray)⟩ : Range), 0, false⟩ : Ask)⟩ : Call)⟩ : Step), false)))
 (.p 1 <|
 .s (.o) <|
 .p 1 <|
 .ret (((⟨j5.w5_0_0, j3, j8.w5_0_2, j8.w5_0_3, (⟨j5.w5_0_4, (⟨j5.w5_0_5, j5.w5_0_6, j5.w5_0_7, (⟨j5.w5_0_8, j5.w5_0_9⟩ : Range), j5.w5_0_10, j5.w5_0_11⟩ : Ask)⟩ : Call)⟩ : Step), true)))
/-- impl.TextStep -/
noncomputable def i_TextStep (p0 : ByteArray) : Option (Step × Bool) := (wi_TextStep p0).den
theorem k_i_TextStep (p0 : ByteArray) (v : Step × Bool) (h : i_TextStep p0 = some v) : CallOK Tryd.prog 6 [sV p0] (.tup [.agg [.c (iC v.1.kind), .c (iC v.1.a), .c (iC v.1.b), .so [] 0 0 (((v.1.keep).map eInt).length), .c (iC v.1.call.kind), .c (iC v.1.call.ask.kind), .c (sC v.1.call.ask.key), .c (sC v.1.call.ask.val), .c (sC v.1.call.ask.range.lo), .c (sC v.1.call.ask.range.hi), .c (iC v.1.call.ask.most), .c (bC v.1.call.ask.back)], .one (.c (bC v.2))]) [lC 1 eInt v.1.keep] :=
  (wi_TextStep p0).call tyOK Tryd.func6 rfl (res := (fun v : Step × Bool => .tup [.agg [.c (iC v.1.kind), .c (iC v.1.a), .c (iC v.1.b), .so [] 0 0 (((v.1.keep).map eInt).length), .c (iC v.1.call.kind), .c (iC v.1.call.ask.kind), .c (sC v.1.call.ask.key), .c (sC v.1.call.ask.val), .c (sC v.1.call.ask.range.lo), .c (sC v.1.call.ask.range.hi), .c (iC v.1.call.ask.most), .c (bC v.1.call.ask.back)], .one (.c (bC v.2))])) (row := (fun v : Step × Bool => [lC 1 eInt v.1.keep])) (by kernel_rfl) h

structure Si_readLines_1 where
  v6 : (List Step)
  v14 : Int

noncomputable def Bi_readLines_1 (p0 : (List ByteArray)) (p1 : Int) (s1 : Si_readLines_1) : Wk (Si_readLines_1 ⊕ ((List Step) ⊕ ((List Step) × Int))) :=
 .p 1 <|
 .ite (decide (s1.v14 < (((((p0).map eStr).length : Nat) : Int))))
 (.join true (ι := (List Step)) (fun j => ms 47 [(1, iV p1), (6, .one (.so [] 6 0 (((j).map eStep).length))), (12, lV 1 eStr p0), (13, iV (((((p0).map eStr).length : Nat) : Int))), (14, iV s1.v14)] [(6, [lC 12 eStep j])])
 (.eb <|
 .p 1 <|
 .bnd (getI p0 s1.v14) fun x1 ex1 =>
 .s (.idx eStr ex1) <|
 .p 3 <|
 .jn false (ι := Bool) (fun j => ms 47 [(1, iV p1), (6, .one (.so [] 6 0 (((s1.v6).map eStep).length))), (7, iV s1.v14), (8, sV x1), (12, lV 1 eStr p0), (13, iV (((((p0).map eStr).length : Nat) : Int))), (14, iV s1.v14), (26, bV j)] [(6, [lC 12 eStep s1.v6])])
 (.p 4 <|
 .cut 22 ((s1.v14 == p1))
 (.p 4 <|
 .ret true)
 (.p 1 <|
 .bnd (i_says x1) fun r1 er1 =>
 .s (.call (k_i_says x1 r1 er1) Tryd.call47) <|
 .p 2 <|
 .ret (!r1))) fun j1 =>
 .ite (j1)
 (.ret (.inl s1.v6))
 (.p 1 <|
 .bnd (i_TextStep x1) fun r2 er2 =>
 .s (.call (k_i_TextStep x1 r2 er2) Tryd.call6) <|
 .p 4 <|
 .s (.o) <|
 .p 1 <|
 .jn false (ι := Bool) (fun j => ms 47 [(1, iV p1), (6, .one (.so [] 6 0 (((s1.v6).map eStep).length))), (7, iV s1.v14), (9, pV 9), (12, lV 1 eStr p0), (13, iV (((((p0).map eStr).length : Nat) : Int))), (14, iV s1.v14), (38, bV j)] [(6, [lC 12 eStep s1.v6]), (9, [.bx [iC r2.1.kind, iC r2.1.a, iC r2.1.b, lC 1 eInt r2.1.keep, iC r2.1.call.kind, iC r2.1.call.ask.kind, sC r2.1.call.ask.key, sC r2.1.call.ask.val, sC r2.1.call.ask.range.lo, sC r2.1.call.ask.range.hi, iC r2.1.call.ask.most, bC r2.1.call.ask.back]])])
 (.p 3 <|
 .cut 34 (!r2.2)
 (.p 4 <|
 .ret true)
 (.p 4 <|
 .ret (((((((s1.v6).map eStep).length : Nat) : Int)) == 300)))) fun j2 =>
 .ite (j2)
 (.p 4 <|
 .im (.nilo 4 4 12) <|
 .ret (.inr (.inr (.inr (([], IntKind.wrap .i64 (s1.v14 + 1)))))))
 (.p 2 <|
 .s (.ob) <|
 .chk (((s1.v6).length + 1) * 144 ≤ 140737488355328) fun c1 =>
 .s (.appn eStep (xs := s1.v6) r2.1 3 c1) <|
 .p 1 <|
 .im (.ren 44 6 6) <|
 .ret (.inl (s1.v6 ++ [r2.1]))))) fun j3 =>
 .p 2 <|
 .ret (.inl ((⟨j3, IntKind.wrap .i64 (s1.v14 + 1)⟩ : Si_readLines_1))))
 (.ret (.inr (.inl s1.v6)))

noncomputable def wi_readLines (p0 : (List ByteArray)) (p1 : Int) : Wk ((List Step) × Int) :=
 .p 7 <|
 .join true (ι := (List Step)) (fun j => ms 47 [(6, .one (.so [] 6 0 (((j).map eStep).length)))] [(6, [lC 12 eStep j])])
 (.eb <|
 .im (.ren 11 6 6) <|
 .loop (σ := Si_readLines_1) (fun s1 => ms 47 [(1, iV p1), (6, .one (.so [] 6 0 (((s1.v6).map eStep).length))), (12, lV 1 eStr p0), (13, iV (((((p0).map eStr).length : Nat) : Int))), (14, iV s1.v14)] [(6, [lC 12 eStep s1.v6])]) ((⟨[], 0⟩ : Si_readLines_1)) (Bi_readLines_1 p0 p1)) fun j4 =>
 .p 3 <|
 .ret ((j4, 0))
/-- impl.readLines -/
noncomputable def i_readLines (p0 : (List ByteArray)) (p1 : Int) : Option ((List Step) × Int) := (wi_readLines p0 p1).den
theorem k_i_readLines (p0 : (List ByteArray)) (p1 : Int) (v : (List Step) × Int) (h : i_readLines p0 p1 = some v) : CallOK Tryd.prog 31 [lV 1 eStr p0, iV p1] (.tup [.one (.so [] 0 0 (((v.1).map eStep).length)), .one (.c (iC v.2))]) [lC 12 eStep v.1] :=
  (wi_readLines p0 p1).call tyOK Tryd.func31 rfl (res := (fun v : (List Step) × Int => .tup [.one (.so [] 0 0 (((v.1).map eStep).length)), .one (.c (iC v.2))])) (row := (fun v : (List Step) × Int => [lC 12 eStep v.1])) (by kernel_rfl) h

noncomputable def wi_ReadScript (p0 : ByteArray) : Wk ((List Step) × Int) :=
 .p 5 <|
 .ite (decide (((p0.size : Int)) > 8000))
 (.p 2 <|
 .im (.nilo 2 2 12) <|
 .ret (([], 1)))
 (.p 1 <|
 .bnd (i_linesOf p0) fun r1 er1 =>
 .s (.call (k_i_linesOf p0 r1 er1) Tryd.call32) <|
 .bnd (i_readLines r1 (-1)) fun r2 er2 =>
 .s (.call (k_i_readLines r1 (-1) r2 er2) Tryd.call31) <|
 .p 4 <|
 .ret ((r2.1, r2.2)))
/-- impl.ReadScript -/
noncomputable def i_ReadScript (p0 : ByteArray) : Option ((List Step) × Int) := (wi_ReadScript p0).den
theorem k_i_ReadScript (p0 : ByteArray) (v : (List Step) × Int) (h : i_ReadScript p0 = some v) : CallOK Tryd.prog 11 [sV p0] (.tup [.one (.so [] 0 0 (((v.1).map eStep).length)), .one (.c (iC v.2))]) [lC 12 eStep v.1] :=
  (wi_ReadScript p0).call tyOK Tryd.func11 rfl (res := (fun v : (List Step) × Int => .tup [.one (.so [] 0 0 (((v.1).map eStep).length)), .one (.c (iC v.2))])) (row := (fun v : (List Step) × Int => [lC 12 eStep v.1])) (by kernel_rfl) h

noncomputable def Bw_eqIntS_1 (p0 : (List Int)) (p1 : (List Int)) (s1 : Int) : Wk (Int ⊕ (Unit ⊕ (Bool))) :=
 .p 4 <|
 .ite (decide (s1 < (((((p0).map eInt).length : Nat) : Int))))
 (.eb <|
 .bnd (getI p0 s1) fun x1 ex1 =>
 .bnd (getI p1 s1) fun x2 ex2 =>
 .drawn [] [(2, .idx eInt ex1), (6, .idx eInt ex2)] (ms 26 [(0, lV 1 eInt p0), (1, lV 1 eInt p1), (5, iV s1), (25, bV ((x1 != x2)))] []) <|
 .ite ((x1 != x2))
 (.p 1 <|
 .ret (.inr (.inr false)))
 (.p 3 <|
 .ret (.inl (IntKind.wrap .i64 (s1 + 1)))))
 (.ret (.inr (.inl (()))))

noncomputable def ww_eqIntS (p0 : (List Int)) (p1 : (List Int)) : Wk (Bool) :=
 .p 6 <|
 .ite (((((((p0).map eInt).length : Nat) : Int)) != (((((p1).map eInt).length : Nat) : Int))))
 (.p 1 <|
 .ret false)
 (.p 1 <|
 .join true (ι := Unit) (fun j => ms 26 [] [])
 (.eb <|
 .loop (σ := Int) (fun s1 => ms 26 [(0, lV 1 eInt p0), (1, lV 1 eInt p1), (5, iV s1)] []) 0 (Bw_eqIntS_1 p0 p1)) fun j1 =>
 .p 1 <|
 .ret true)
/-- laws.eqIntS -/
noncomputable def w_eqIntS (p0 : (List Int)) (p1 : (List Int)) : Option (Bool) := (ww_eqIntS p0 p1).den
theorem k_w_eqIntS (p0 : (List Int)) (p1 : (List Int)) (v : Bool) (h : w_eqIntS p0 p1 = some v) : CallOK Tryd.prog 25 [lV 1 eInt p0, lV 1 eInt p1] (bV v) [] :=
  (ww_eqIntS p0 p1).call tyOK Tryd.func25 rfl (res := (fun v : Bool => bV v)) (row := (fun v : Bool => [])) (by kernel_rfl) h

noncomputable def ww_eqRange (p0 : Range) (p1 : Range) : Wk (Bool) :=
 .p 8 <|
 .ite (!(p0.lo.toList == p1.lo.toList))
 (.p 1 <|
 .ret false)
 (.p 5 <|
 .ite (!(p0.hi.toList == p1.hi.toList))
 (.p 1 <|
 .ret false)
 (.p 1 <|
 .ret true))
/-- laws.eqRange -/
noncomputable def w_eqRange (p0 : Range) (p1 : Range) : Option (Bool) := (ww_eqRange p0 p1).den
theorem k_w_eqRange (p0 : Range) (p1 : Range) (v : Bool) (h : w_eqRange p0 p1 = some v) : CallOK Tryd.prog 61 [.agg [.c (sC p0.lo), .c (sC p0.hi)], .agg [.c (sC p1.lo), .c (sC p1.hi)]] (bV v) [] :=
  (ww_eqRange p0 p1).call tyOK Tryd.func61 rfl (res := (fun v : Bool => bV v)) (row := (fun v : Bool => [])) (by kernel_rfl) h

noncomputable def ww_eqAsk (p0 : Ask) (p1 : Ask) : Wk (Bool) :=
 .p 8 <|
 .ite ((p0.kind != p1.kind))
 (.p 1 <|
 .ret false)
 (.p 5 <|
 .ite (!(p0.key.toList == p1.key.toList))
 (.p 1 <|
 .ret false)
 (.p 5 <|
 .ite (!(p0.val.toList == p1.val.toList))
 (.p 1 <|
 .ret false)
 (.p 4 <|
 .bnd (w_eqRange p0.range p1.range) fun r1 er1 =>
 .s (.call (k_w_eqRange p0.range p1.range r1 er1) Tryd.call61) <|
 .p 1 <|
 .ite (!r1)
 (.p 1 <|
 .ret false)
 (.p 5 <|
 .ite ((p0.most != p1.most))
 (.p 1 <|
 .ret false)
 (.p 5 <|
 .ite (!(p0.back == p1.back))
 (.p 1 <|
 .ret false)
 (.p 1 <|
 .ret true))))))
/-- laws.eqAsk -/
noncomputable def w_eqAsk (p0 : Ask) (p1 : Ask) : Option (Bool) := (ww_eqAsk p0 p1).den
theorem k_w_eqAsk (p0 : Ask) (p1 : Ask) (v : Bool) (h : w_eqAsk p0 p1 = some v) : CallOK Tryd.prog 46 [.agg [.c (iC p0.kind), .c (sC p0.key), .c (sC p0.val), .c (sC p0.range.lo), .c (sC p0.range.hi), .c (iC p0.most), .c (bC p0.back)], .agg [.c (iC p1.kind), .c (sC p1.key), .c (sC p1.val), .c (sC p1.range.lo), .c (sC p1.range.hi), .c (iC p1.most), .c (bC p1.back)]] (bV v) [] :=
  (ww_eqAsk p0 p1).call tyOK Tryd.func46 rfl (res := (fun v : Bool => bV v)) (row := (fun v : Bool => [])) (by kernel_rfl) h

noncomputable def ww_eqCall (p0 : Call) (p1 : Call) : Wk (Bool) :=
 .p 8 <|
 .ite ((p0.kind != p1.kind))
 (.p 1 <|
 .ret false)
 (.p 4 <|
 .bnd (w_eqAsk p0.ask p1.ask) fun r1 er1 =>
 .s (.call (k_w_eqAsk p0.ask p1.ask r1 er1) Tryd.call46) <|
 .p 1 <|
 .ite (!r1)
 (.p 1 <|
 .ret false)
 (.p 1 <|
 .ret true))
/-- laws.eqCall -/
noncomputable def w_eqCall (p0 : Call) (p1 : Call) : Option (Bool) := (ww_eqCall p0 p1).den
theorem k_w_eqCall (p0 : Call) (p1 : Call) (v : Bool) (h : w_eqCall p0 p1 = some v) : CallOK Tryd.prog 26 [.agg [.c (iC p0.kind), .c (iC p0.ask.kind), .c (sC p0.ask.key), .c (sC p0.ask.val), .c (sC p0.ask.range.lo), .c (sC p0.ask.range.hi), .c (iC p0.ask.most), .c (bC p0.ask.back)], .agg [.c (iC p1.kind), .c (iC p1.ask.kind), .c (sC p1.ask.key), .c (sC p1.ask.val), .c (sC p1.ask.range.lo), .c (sC p1.ask.range.hi), .c (iC p1.ask.most), .c (bC p1.ask.back)]] (bV v) [] :=
  (ww_eqCall p0 p1).call tyOK Tryd.func26 rfl (res := (fun v : Bool => bV v)) (row := (fun v : Bool => [])) (by kernel_rfl) h

noncomputable def ww_eqStep (p0 : Step) (p1 : Step) : Wk (Bool) :=
 .p 8 <|
 .ite ((p0.kind != p1.kind))
 (.p 1 <|
 .ret false)
 (.p 5 <|
 .ite ((p0.a != p1.a))
 (.p 1 <|
 .ret false)
 (.p 5 <|
 .ite ((p0.b != p1.b))
 (.p 1 <|
 .ret false)
 (.p 4 <|
 .bnd (w_eqIntS p0.keep p1.keep) fun r1 er1 =>
 .s (.call (k_w_eqIntS p0.keep p1.keep r1 er1) Tryd.call25) <|
 .p 1 <|
 .ite (!r1)
 (.p 1 <|
 .ret false)
 (.p 4 <|
 .bnd (w_eqCall p0.call p1.call) fun r2 er2 =>
 .s (.call (k_w_eqCall p0.call p1.call r2 er2) Tryd.call26) <|
 .p 1 <|
 .ite (!r2)
 (.p 1 <|
 .ret false)
 (.p 1 <|
 .ret true)))))
/-- laws.eqStep -/
noncomputable def w_eqStep (p0 : Step) (p1 : Step) : Option (Bool) := (ww_eqStep p0 p1).den
theorem k_w_eqStep (p0 : Step) (p1 : Step) (v : Bool) (h : w_eqStep p0 p1 = some v) : CallOK Tryd.prog 7 [.agg [.c (iC p0.kind), .c (iC p0.a), .c (iC p0.b), .c (lC 1 eInt p0.keep), .c (iC p0.call.kind), .c (iC p0.call.ask.kind), .c (sC p0.call.ask.key), .c (sC p0.call.ask.val), .c (sC p0.call.ask.range.lo), .c (sC p0.call.ask.range.hi), .c (iC p0.call.ask.most), .c (bC p0.call.ask.back)], .agg [.c (iC p1.kind), .c (iC p1.a), .c (iC p1.b), .c (lC 1 eInt p1.keep), .c (iC p1.call.kind), .c (iC p1.call.ask.kind), .c (sC p1.call.ask.key), .c (sC p1.call.ask.val), .c (sC p1.call.ask.range.lo), .c (sC p1.call.ask.range.hi), .c (iC p1.call.ask.most), .c (bC p1.call.ask.back)]] (bV v) [] :=
  (ww_eqStep p0 p1).call tyOK Tryd.func7 rfl (res := (fun v : Bool => bV v)) (row := (fun v : Bool => [])) (by kernel_rfl) h

noncomputable def Bw_eqStepS_1 (p0 : (List Step)) (p1 : (List Step)) (s1 : Int) : Wk (Int ⊕ (Unit ⊕ (Bool))) :=
 .p 4 <|
 .ite (decide (s1 < (((((p0).map eStep).length : Nat) : Int))))
 (.eb <|
 .bnd (getI p0 s1) fun x1 ex1 =>
 .bnd (getI p1 s1) fun x2 ex2 =>
 .bnd (w_eqStep x1 x2) fun r1 er1 =>
 .drawn [] [(2, .idx eStep ex1), (6, .idx eStep ex2), (8, .call (k_w_eqStep x1 x2 r1 er1) Tryd.call7)] (ms 27 [(0, lV 12 eStep p0), (1, lV 12 eStep p1), (5, iV s1), (26, bV (!r1))] []) <|
 .ite (!r1)
 (.p 1 <|
 .ret (.inr (.inr false)))
 (.p 3 <|
 .ret (.inl (IntKind.wrap .i64 (s1 + 1)))))
 (.ret (.inr (.inl (()))))

noncomputable def ww_eqStepS (p0 : (List Step)) (p1 : (List Step)) : Wk (Bool) :=
 .p 6 <|
 .ite (((((((p0).map eStep).length : Nat) : Int)) != (((((p1).map eStep).length : Nat) : Int))))
 (.p 1 <|
 .ret false)
 (.p 1 <|
 .join true (ι := Unit) (fun j => ms 27 [] [])
 (.eb <|
 .loop (σ := Int) (fun s1 => ms 27 [(0, lV 12 eStep p0), (1, lV 12 eStep p1), (5, iV s1)] []) 0 (Bw_eqStepS_1 p0 p1)) fun j1 =>
 .p 1 <|
 .ret true)
/-- laws.eqStepS -/
noncomputable def w_eqStepS (p0 : (List Step)) (p1 : (List Step)) : Option (Bool) := (ww_eqStepS p0 p1).den
theorem k_w_eqStepS (p0 : (List Step)) (p1 : (List Step)) (v : Bool) (h : w_eqStepS p0 p1 = some v) : CallOK Tryd.prog 12 [lV 12 eStep p0, lV 12 eStep p1] (bV v) [] :=
  (ww_eqStepS p0 p1).call tyOK Tryd.func12 rfl (res := (fun v : Bool => bV v)) (row := (fun v : Bool => [])) (by kernel_rfl) h

structure Xw_markIntS_1 where
  v1 : Int
  w0_0 : (List Int)

structure Sw_markIntS_1 where
  v1 : Int
  v5 : Int
  w0_0 : (List Int)

noncomputable def Bw_markIntS_1 (s1 : Sw_markIntS_1) : Wk (Sw_markIntS_1 ⊕ Xw_markIntS_1) :=
 .p 4 <|
 .ite (decide (s1.v5 < (((((s1.w0_0).map eInt).length : Nat) : Int))))
 (.eb <|
 .p 3 <|
 .bnd (getI s1.w0_0 s1.v5) fun x1 ex1 =>
 .s (.ixo eInt ex1) <|
 .s (.st eInt s1.v1 (getI_e ex1).2 rfl) <|
 .im (.says 0 (show (.one (.so [] 0 0 (((s1.w0_0).map eInt).length)) : TV) = .one (.so [] 0 0 (((s1.w0_0.set ((s1.v5).toNat) s1.v1).map eInt).length)) by simp <;> omega)) <|
 .p 6 <|
 .ret (.inl ((⟨IntKind.wrap .i64 (s1.v1 + 1), IntKind.wrap .i64 (s1.v5 + 1), s1.w0_0.set ((s1.v5).toNat) s1.v1⟩ : Sw_markIntS_1))))
 (.ret (.inr ((⟨s1.v1, s1.w0_0⟩ : Xw_markIntS_1))))

noncomputable def ww_markIntS (p0 : (List Int)) (p1 : Int) : Wk ((List Int) × Int) :=
 .p 2 <|
 .jn true (ι := Xw_markIntS_1) (fun j => ms 19 [(0, .one (.so [] 0 0 (((j.w0_0).map eInt).length))), (1, iV j.v1)] [(0, [lC 1 eInt j.w0_0])])
 (.eb <|
 .loop (σ := Sw_markIntS_1) (fun s1 => ms 19 [(0, .one (.so [] 0 0 (((s1.w0_0).map eInt).length))), (1, iV s1.v1), (5, iV s1.v5)] [(0, [lC 1 eInt s1.w0_0])]) ((⟨p1, 0, p0⟩ : Sw_markIntS_1)) (Bw_markIntS_1)) fun j1 =>
 .p 2 <|
 .ret ((j1.w0_0, j1.v1))
/-- laws.markIntS -/
noncomputable def w_markIntS (p0 : (List Int)) (p1 : Int) : Option ((List Int) × Int) := (ww_markIntS p0 p1).den
theorem k_w_markIntS (p0 : (List Int)) (p1 : Int) (v : (List Int) × Int) (h : w_markIntS p0 p1 = some v) : CallG Tryd.prog 27 [lC 1 eInt p0] [.one (.so [] 0 0 (((p0).map eInt).length)), iV p1] [lC 1 eInt v.1] (iV v.2) [] :=
  (ww_markIntS p0 p1).callg tyOK Tryd.func27 rfl (outs := (fun v : (List Int) × Int => [lC 1 eInt v.1])) (res := (fun v : (List Int) × Int => iV v.2)) (row := (fun v : (List Int) × Int => [])) (Nat.le_of_ble_eq_true rfl) (by kernel_rfl) h

structure Sw_markText_1 where
  v0 : Int
  v3 : ByteArray

noncomputable def Bw_markText_1 (s1 : Sw_markText_1) : Wk (Sw_markText_1 ⊕ ByteArray) :=
 .p 2 <|
 .ite (decide (s1.v0 > 0))
 (.eb <|
 .p 7 <|
 .chk (((byteB (IntKind.wrap .u8 (IntKind.wrap .i64 (48 + (Int.tmod s1.v0 10))))).size + s1.v3.size ≤ 140737488355328)) fun c1 =>
 .s (.q c1) <|
 .p 4 <|
 .ret (.inl ((⟨IntKind.wrap .i64 (Int.tdiv s1.v0 10), (byteB (IntKind.wrap .u8 (IntKind.wrap .i64 (48 + (Int.tmod s1.v0 10))))) ++ s1.v3⟩ : Sw_markText_1))))
 (.ret (.inr s1.v3))

noncomputable def ww_markText (p0 : Int) : Wk (ByteArray) :=
 .p 3 <|
 .ite (decide (p0 ≤ 0))
 (.p 1 <|
 .ret ((⟨#[109, 48]⟩ : ByteArray)))
 (.p 1 <|
 .jn true (ι := ByteArray) (fun j => ms 20 [(3, sV j)] [])
 (.eb <|
 .loop (σ := Sw_markText_1) (fun s1 => ms 20 [(0, iV s1.v0), (3, sV s1.v3)] []) ((⟨p0, (⟨#[]⟩ : ByteArray)⟩ : Sw_markText_1)) (Bw_markText_1)) fun j1 =>
 .p 1 <|
 .chk ((((⟨#[109]⟩ : ByteArray)).size + j1.size ≤ 140737488355328)) fun c2 =>
 .s (.q c2) <|
 .p 1 <|
 .ret (((⟨#[109]⟩ : ByteArray)) ++ j1))
/-- laws.markText -/
noncomputable def w_markText (p0 : Int) : Option (ByteArray) := (ww_markText p0).den
theorem k_w_markText (p0 : Int) (v : ByteArray) (h : w_markText p0 = some v) : CallOK Tryd.prog 33 [iV p0] (sV v) [] :=
  (ww_markText p0).call tyOK Tryd.func33 rfl (res := (fun v : ByteArray => sV v)) (row := (fun v : ByteArray => [])) (by kernel_rfl) h


end Go.Proofs.YtagoajkiccgmjaaDoor
namespace Go.Proofs.YtagoajkiccgmjaaDoor
open Go.Mv Go.RowKit

structure Xw_markStepS_1 where
  v1 : Int
  w0_0 : (List Step)

structure Sw_markStepS_1 where
  v1 : Int
  v5 : Int
  w0_0 : (List Step)

noncomputable def Bw_markStepS_1 (s1 : Sw_markStepS_1) : Wk (Sw_markStepS_1 ⊕ Xw_markStepS_1) :=
 .p 4 <|
 .ite (decide (s1.v5 < (((((s1.w0_0).map eStep).length : Nat) : Int))))
 (.eb <|
 .p 3 <|
 .bnd (getI s1.w0_0 s1.v5) fun x1 ex1 =>
 .s (.ixo eStep ex1) <|
 .p 1 <|
 .s (.st eStep ((⟨s1.v1, x1.a, x1.b, x1.keep, x1.call⟩ : Step)) (getI_e ex1).2 rfl) <|
 .im (.says 0 (show (.one (.so [] 0 0 (((s1.w0_0).map eStep).length)) : TV) = .one (.so [] 0 0 (((s1.w0_0.set ((s1.v5).toNat) ((⟨s1.v1, x1.a, x1.b, x1.keep, x1.call⟩ : Step))).map eStep).length)) by simp <;> omega)) <|
 .p 6 <|
 .s (.ixk eStep (by simpa using getI_both ex1) (List.getElem?_set_self (a := (⟨s1.v1, x1.a, x1.b, x1.keep, x1.call⟩ : Step)) (getI_lt ex1))) <|
 .p 1 <|
 .s (.st eStep ((⟨s1.v1, IntKind.wrap .i64 (s1.v1 + 1), x1.b, x1.keep, x1.call⟩ : Step)) (List.getElem?_set_self (a := (⟨s1.v1, x1.a, x1.b, x1.keep, x1.call⟩ : Step)) (getI_lt ex1)) (List.set_set (a := (⟨s1.v1, x1.a, x1.b, x1.keep, x1.call⟩ : Step)) ..)) <|
 .im (.says 0 (show (.one (.so [] 0 0 (((s1.w0_0.set ((s1.v5).toNat) ((⟨s1.v1, x1.a, x1.b, x1.keep, x1.call⟩ : Step))).map eStep).length)) : TV) = .one (.so [] 0 0 (((s1.w0_0.set ((s1.v5).toNat) ((⟨s1.v1, IntKind.wrap .i64 (s1.v1 + 1), x1.b, x1.keep, x1.call⟩ : Step))).map eStep).length)) by simp <;> omega)) <|
 .p 6 <|
 .s (.ixk eStep (by simpa using getI_both ex1) (List.getElem?_set_self (a := (⟨s1.v1, IntKind.wrap .i64 (s1.v1 + 1), x1.b, x1.keep, x1.call⟩ : Step)) (getI_lt ex1))) <|
 .p 1 <|
 .s (.st eStep ((⟨s1.v1, IntKind.wrap .i64 (s1.v1 + 1), IntKind.wrap .i64 ((IntKind.wrap .i64 (s1.v1 + 1)) + 1), x1.keep, x1.call⟩ : Step)) (List.getElem?_set_self (a := (⟨s1.v1, IntKind.wrap .i64 (s1.v1 + 1), x1.b, x1.keep, x1.call⟩ : Step)) (getI_lt ex1)) (List.set_set (a := (⟨s1.v1, IntKind.wrap .i64 (s1.v1 + 1), x1.b, x1.keep, x1.call⟩ : Step)) ..)) <|
 .im (.says 0 (show (.one (.so [] 0 0 (((s1.w0_0.set ((s1.v5).toNat) ((⟨s1.v1, IntKind.wrap .i64 (s1.v1 + 1), x1.b, x1.keep, x1.call⟩ : Step))).map eStep).length)) : TV) = .one (.so [] 0 0 (((s1.w0_0.set ((s1.v5).toNat) ((⟨s1.v1, IntKind.wrap .i64 (s1.v1 + 1), IntKind.wrap .i64 ((IntKind.wrap .i64 (s1.v1 + 1)) + 1), x1.keep, x1.call⟩ : Step))).map eStep).length)) by simp <;> omega)) <|
 .p 5 <|
 .s (.ixk eStep (by simpa using getI_both ex1) (List.getElem?_set_self (a := (⟨s1.v1, IntKind.wrap .i64 (s1.v1 + 1), IntKind.wrap .i64 ((IntKind.wrap .i64 (s1.v1 + 1)) + 1), x1.keep, x1.call⟩ : Step)) (getI_lt ex1))) <|
 .p 1 <|
 .s (.ld eStep (List.getElem?_set_self (a := (⟨s1.v1, IntKind.wrap .i64 (s1.v1 + 1), IntKind.wrap .i64 ((IntKind.wrap .i64 (s1.v1 + 1)) + 1), x1.keep, x1.call⟩ : Step)) (getI_lt ex1))) <|
 .p 1 <|
 .bnd (w_markIntS x1.keep (IntKind.wrap .i64 ((IntKind.wrap .i64 ((IntKind.wrap .i64 (s1.v1 + 1)) + 1)) + 1))) fun r1 er1 =>
 .chk ((r1.1).length = (x1.keep).length) fun c1 =>
 .s (.gn eStep ((⟨s1.v1, IntKind.wrap .i64 (s1.v1 + 1), IntKind.wrap .i64 ((IntKind.wrap .i64 (s1.v1 + 1)) + 1), r1.1, x1.call⟩ : Step)) 3 (List.getElem?_set_self (a := (⟨s1.v1, IntKind.wrap .i64 (s1.v1 + 1), IntKind.wrap .i64 ((IntKind.wrap .i64 (s1.v1 + 1)) + 1), x1.keep, x1.call⟩ : Step)) (getI_lt ex1)) (List.set_set (a := (⟨s1.v1, IntKind.wrap .i64 (s1.v1 + 1), IntKind.wrap .i64 ((IntKind.wrap .i64 (s1.v1 + 1)) + 1), x1.keep, x1.call⟩ : Step)) ..) [0, 5, 39] (k_w_markIntS x1.keep (IntKind.wrap .i64 ((IntKind.wrap .i64 ((IntKind.wrap .i64 (s1.v1 + 1)) + 1)) + 1)) r1 er1) Tryd.call27 (.sl (by simpa using c1) .nil)) <|
 .im (.says 0 (show (.one (.so [] 0 0 (((s1.w0_0.set ((s1.v5).toNat) ((⟨s1.v1, IntKind.wrap .i64 (s1.v1 + 1), IntKind.wrap .i64 ((IntKind.wrap .i64 (s1.v1 + 1)) + 1), x1.keep, x1.call⟩ : Step))).map eStep).length)) : TV) = .one (.so [] 0 0 (((s1.w0_0.set ((s1.v5).toNat) ((⟨s1.v1, IntKind.wrap .i64 (s1.v1 + 1), IntKind.wrap .i64 ((IntKind.wrap .i64 (s1.v1 + 1)) + 1), r1.1, x1.call⟩ : Step))).map eStep).length)) by simp <;> omega)) <|
 .p 4 <|
 .s (.ixk eStep (by simpa using getI_both ex1) (List.getElem?_set_self (a := (⟨s1.v1, IntKind.wrap .i64 (s1.v1 + 1), IntKind.wrap .i64 ((IntKind.wrap .i64 (s1.v1 + 1)) + 1), r1.1, x1.call⟩ : Step)) (getI_lt ex1))) <|
 .p 2 <|
 .s (.st eStep ((⟨s1.v1, IntKind.wrap .i64 (s1.v1 + 1), IntKind.wrap .i64 ((IntKind.wrap .i64 (s1.v1 + 1)) + 1), r1.1, (⟨r1.2, x1.call.ask⟩ : Call)⟩ : Step)) (List.getElem?_set_self (a := (⟨s1.v1, IntKind.wrap .i64 (s1.v1 + 1), IntKind.wrap .i64 ((IntKind.wrap .i64 (s1.v1 + 1)) + 1), r1.1, x1.call⟩ : Step)) (getI_lt ex1)) (List.set_set (a := (⟨s1.v1, IntKind.wrap .i64 (s1.v1 + 1), IntKind.wrap .i64 ((IntKind.wrap .i64 (s1.v1 + 1)) + 1), r1.1, x1.call⟩ : Step)) ..)) <|
 .im (.says 0 (show (.one (.so [] 0 0 (((s1.w0_0.set ((s1.v5).toNat) ((⟨s1.v1, IntKind.wrap .i64 (s1.v1 + 1), IntKind.wrap .i64 ((IntKind.wrap .i64 (s1.v1 + 1)) + 1), r1.1, x1.call⟩ : Step))).map eStep).length)) : TV) = .one (.so [] 0 0 (((s1.w0_0.set ((s1.v5).toNat) ((⟨s1.v1, IntKind.wrap .i64 (s1.v1 + 1), IntKind.wrap .i64 ((IntKind.wrap .i64 (s1.v1 + 1)) + 1), r1.1, (⟨r1.2, x1.call.ask⟩ : Call)⟩ : Step))).map eStep).length)) by simp <;> omega)) <|
 .p 6 <|
 .s (.ixk eStep (by simpa using getI_both ex1) (List.getElem?_set_self (a := (⟨s1.v1, IntKind.wrap .i64 (s1.v1 + 1), IntKind.wrap .i64 ((IntKind.wrap .i64 (s1.v1 + 1)) + 1), r1.1, (⟨r1.2, x1.call.ask⟩ : Call)⟩ : Step)) (getI_lt ex1))) <|
 .p 3 <|
 .s (.st eStep ((⟨s1.v1, IntKind.wrap .i64 (s1.v1 + 1), IntKind.wrap .i64 ((IntKind.wrap .i64 (s1.v1 + 1)) + 1), r1.1, (⟨r1.2, (⟨IntKind.wrap .i64 (r1.2 + 1), x1.call.ask.key, x1.call.ask.val, x1.call.ask.range, x1.call.ask.most, x1.call.ask.back⟩ : Ask)⟩ : Call)⟩ : Step)) (List.getElem?_set_self (a := (⟨s1.v1, IntKind.wrap .i64 (s1.v1 + 1), IntKind.wrap .i64 ((IntKind.wrap .i64 (s1.v1 + 1)) + 1), r1.1, (⟨r1.2, x1.call.ask⟩ : Call)⟩ : Step)) (getI_lt ex1)) (List.set_set (a := (⟨s1.v1, IntKind.wrap .i64 (s1.v1 + 1), IntKind.wrap .i64 ((IntKind.wrap .i64 (s1.v1 + 1)) + 1), r1.1, (⟨r1.2, x1.call.ask⟩ : Call)⟩ : Step)) ..)) <|
 .im (.says 0 (show (.one (.so [] 0 0 (((s1.w0_0.set ((s1.v5).toNat) ((⟨s1.v1, IntKind.wrap .i64 (s1.v1 + 1), IntKind.wrap .i64 ((IntKind.wrap .i64 (s1.v1 + 1)) + 1), r1.1, (⟨r1.2, x1.call.ask⟩ : Call)⟩ : Step))).map eStep).length)) : TV) = .one (.so [] 0 0 (((s1.w0_0.set ((s1.v5).toNat) ((⟨s1.v1, IntKind.wrap .i64 (s1.v1 + 1), IntKind.wrap .i64 ((IntKind.wrap .i64 (s1.v1 + 1)) + 1), r1.1, (⟨r1.2, (⟨IntKind.wrap .i64 (r1.2 + 1), x1.call.ask.key, x1.call.ask.val, x1.call.ask.range, x1.call.ask.most, x1.call.ask.back⟩ : Ask)⟩ : Call)⟩ : Step))).map eStep).length)) by simp <;> omega)) <|
 .p 6 <|
 .bnd (w_markText (IntKind.wrap .i64 ((IntKind.wrap .i64 (r1.2 + 1)) + 1))) fun r2 er2 =>
 .s (.call (k_w_markText (IntKind.wrap .i64 ((IntKind.wrap .i64 (r1.2 + 1)) + 1)) r2 er2) Tryd.call33) <|
 .s (.ixk eStep (by simpa using getI_both ex1) (List.getElem?_set_self (a := (⟨s1.v1, IntKind.wrap .i64 (s1.v1 + 1), IntKind.wrap .i64 ((IntKind.wrap .i64 (s1.v1 + 1)) + 1), r1.1, (⟨r1.2, (⟨IntKind.wrap .i64 (r1.2 + 1), x1.call.ask.key, x1.call.ask.val, x1.call.ask.range, x1.call.ask.most, x1.call.ask.back⟩ : Ask)⟩ : Call)⟩ : Step)) (getI_lt ex1))) <|
 .p 3 <|
 .s (.st eStep ((⟨s1.v1, IntKind.wrap .i64 (s1.v1 + 1), IntKind.wrap .i64 ((IntKind.wrap .i64 (s1.v1 + 1)) + 1), r1.1, (⟨r1.2, (⟨IntKind.wrap .i64 (r1.2 + 1), r2, x1.call.ask.val, x1.call.ask.range, x1.call.ask.most, x1.call.ask.back⟩ : Ask)⟩ : Call)⟩ : Step)) (List.getElem?_set_self (a := (⟨s1.v1, IntKind.wrap .i64 (s1.v1 + 1), IntKind.wrap .i64 ((IntKind.wrap .i64 (s1.v1 + 1)) + 1), r1.1, (⟨r1.2, (⟨IntKind.wrap .i64 (r1.2 + 1), x1.call.ask.key, x1.call.ask.val, x1.call.ask.range, x1.call.ask.most, x1.call.ask.back⟩ : Ask)⟩ : Call)⟩ : Step)) (getI_lt ex1)) (List.set_set (a := (⟨s1.v1, IntKind.wrap .i64 (s1.v1 + 1), IntKind.wrap .i64 ((IntKind.wrap .i64 (s1.v1 + 1)) + 1), r1.1, (⟨r1.2, (⟨IntKind.wrap .i64 (r1.2 + 1), x1.call.ask.key, x1.call.ask.val, x1.call.ask.range, x1.call.ask.most, x1.call.ask.back⟩ : Ask)⟩ : Call)⟩ : Step)) ..)) <|
 .im (.says 0 (show (.one (.so [] 0 0 (((s1.w0_0.set ((s1.v5).toNat) ((⟨s1.v1, IntKind.wrap .i64 (s1.v1 + 1), IntKind.wrap .i64 ((IntKind.wrap .i64 (s1.v1 + 1)) + 1), r1.1, (⟨r1.2, (⟨IntKind.wrap .i64 (r1.2 + 1), x1.call.ask.key, x1.call.ask.val, x1.call.ask.range, x1.call.ask.most, x1.call.ask.back⟩ : Ask)⟩ : Call)⟩ : Step))).map eStep).length)) : TV) = .one (.so [] 0 0 (((s1.w0_0.set ((s1.v5).toNat) ((⟨s1.v1, IntKind.wrap .i64 (s1.v1 + 1), IntKind.wrap .i64 ((IntKind.wrap .i64 (s1.v1 + 1)) + 1), r1.1, (⟨r1.2, (⟨IntKind.wrap .i64 (r1.2 + 1), r2, x1.call.ask.val, x1.call.ask.range, x1.call.ask.most, x1.call.ask.back⟩ : Ask)⟩ : Call)⟩ : Step))).map eStep).length)) by simp <;> omega)) <|
 .p 6 <|
 .bnd (w_markText (IntKind.wrap .i64 ((IntKind.wrap .i64 ((IntKind.wrap .i64 (r1.2 + 1)) + 1)) + 1))) fun r3 er3 =>
 .s (.call (k_w_markText (IntKind.wrap .i64 ((IntKind.wrap .i64 ((IntKind.wrap .i64 (r1.2 + 1)) + 1)) + 1)) r3 er3) Tryd.call33) <|
 .s (.ixk eStep (by simpa using getI_both ex1) (List.getElem?_set_self (a := (⟨s1.v1, IntKind.wrap .i64 (s1.v1 + 1), IntKind.wrap .i64 ((IntKind.wrap .i64 (s1.v1 + 1)) + 1), r1.1, (⟨r1.2, (⟨IntKind.wrap .i64 (r1.2 + 1), r2, x1.call.ask.val, x1.call.ask.range, x1.call.ask.most, x1.call.ask.back⟩ : Ask)⟩ : Call)⟩ : Step)) (getI_lt ex1))) <|
 .p 3 <|
 .s (.st eStep ((⟨s1.v1, IntKind.wrap .i64 (s1.v1 + 1), IntKind.wrap .i64 ((IntKind.wrap .i64 (s1.v1 + 1)) + 1), r1.1, (⟨r1.2, (⟨IntKind.wrap .i64 (r1.2 + 1), r2, r3, x1.call.ask.range, x1.call.ask.most, x1.call.ask.back⟩ : Ask)⟩ : Call)⟩ : Step)) (List.getElem?_set_self (a := (⟨s1.v1, IntKind.wrap .i64 (s1.v1 + 1), IntKind.wrap .i64 ((IntKind.wrap .i64 (s1.v1 + 1)) + 1), r1.1, (⟨r1.2, (⟨IntKind.wrap .i64 (r1.2 + 1), r2, x1.call.ask.val, x1.call.ask.range, x1.call.ask.most, x1.call.ask.back⟩ : Ask)⟩ : Call)⟩ : Step)) (getI_lt ex1)) (List.set_set (a := (⟨s1.v1, IntKind.wrap .i64 (s1.v1 + 1), IntKind.wrap .i64 ((IntKind.wrap .i64 (s1.v1 + 1)) + 1), r1.1, (⟨r1.2, (⟨IntKind.wrap .i64 (r1.2 + 1), r2, x1.call.ask.val, x1.call.ask.range, x1.call.ask.most, x1.call.ask.back⟩ : Ask)⟩ : Call)⟩ : Step)) ..)) <|
 .im (.says 0 (show (.one (.so [] 0 0 (((s1.w0_0.set ((s1.v5).toNat) ((⟨s1.v1, IntKind.wrap .i64 (s1.v1 + 1), IntKind.wrap .i64 ((IntKind.wrap .i64 (s1.v1 + 1)) + 1), r1.1, (⟨r1.2, (⟨IntKind.wrap .i64 (r1.2 + 1), r2, x1.call.ask.val, x1.call.ask.range, x1.call.ask.most, x1.call.ask.back⟩ : Ask)⟩ : Call)⟩ : Step))).map eStep).length)) : TV) = .one (.so [] 0 0 (((s1.w0_0.set ((s1.v5).toNat) ((⟨s1.v1, IntKind.wrap .i64 (s1.v1 + 1), IntKind.wrap .i64 ((IntKind.wrap .i64 (s1.v1 + 1)) + 1), r1.1, (⟨r1.2, (⟨IntKind.wrap .i64 (r1.2 + 1), r2, r3, x1.call.ask.range, x1.call.ask.most, x1.call.ask.back⟩ : Ask)⟩ : Call)⟩ : Step))).map eStep).length)) by simp <;> omega)) <|
 .p 6 <|
 .bnd (w_markText (IntKind.wrap .i64 ((IntKind.wrap .i64 ((IntKind.wrap .i64 ((IntKind.wrap .i64 (r1.2 + 1)) + 1)) + 1)) + 1))) fun r4 er4 =>
 .s (.call (k_w_markText (IntKind.wrap .i64 ((IntKind.wrap .i64 ((IntKind.wrap .i64 ((IntKind.wrap .i64 (r1.2 + 1)) + 1)) + 1)) + 1)) r4 er4) Tryd.call33) <|
 .s (.ixk eStep (by simpa using getI_both ex1) (List.getElem?_set_self (a := (⟨s1.v1, IntKind.wrap .i64 (s1.v1 + 1), IntKind.wrap .i64 ((IntKind.wrap .i64 (s1.v1 + 1)) + 1), r1.1, (⟨r1.2, (⟨IntKind.wrap .i64 (r1.2 + 1), r2, r3, x1.call.ask.range, x1.call.ask.most, x1.call.ask.back⟩ : Ask)⟩ : Call)⟩ : Step)) (getI_lt ex1))) <|
 .p 4 <|
 .s (.st eStep ((⟨s1.v1, IntKind.wrap .i64 (s1.v1 + 1), IntKind.wrap .i64 ((IntKind.wrap .i64 (s1.v1 + 1)) + 1), r1.1, (⟨r1.2, (⟨IntKind.wrap .i64 (r1.2 + 1), r2, r3, (⟨r4, x1.call.ask.range.hi⟩ : Range), x1.call.ask.most, x1.call.ask.back⟩ : Ask)⟩ : Call)⟩ : Step)) (List.getElem?_set_self (a := (⟨s1.v1, IntKind.wrap .i64 (s1.v1 + 1), IntKind.wrap .i64 ((IntKind.wrap .i64 (s1.v1 + 1)) + 1), r1.1, (⟨r1.2, (⟨IntKind.wrap .i64 (r1.2 + 1), r2, r3, x1.call.ask.range, x1.call.ask.most, x1.call.ask.back⟩ : Ask)⟩ : Call)⟩ : Step)) (getI_lt ex1)) (List.set_set (a := (⟨s1.v1, IntKind.wrap .i64 (s1.v1 + 1), IntKind.wrap .i64 ((IntKind.wrap .i64 (s1.v1 + 1)) + 1), r1.1, (⟨r1.2, (⟨IntKind.wrap .i64 (r1.2 + 1), r2, r3, x1.call.ask.range, x1.call.ask.most, x1.call.ask.back⟩ : Ask)⟩ : Call)⟩ : Step)) ..)) <|
 .im (.says 0 (show (.one (.so [] 0 0 (((s1.w0_0.set ((s1.v5).toNat) ((⟨s1.v1, IntKind.wrap .i64 (s1.v1 + 1), IntKind.wrap .i64 ((IntKind.wrap .i64 (s1.v1 + 1)) + 1), r1.1, (⟨r1.2, (⟨IntKind.wrap .i64 (r1.2 + 1), r2, r3, x1.call.ask.range, x1.call.ask.most, x1.call.ask.back⟩ : Ask)⟩ : Call)⟩ : Step))).map eStep).length)) : TV) = .one (.so [] 0 0 (((s1.w0_0.set ((s1.v5).toNat) ((⟨s1.v1, IntKind.wrap .i64 (s1.v1 + 1), IntKind.wrap .i64 ((IntKind.wrap .i64 (s1.v1 + 1)) + 1), r1.1, (⟨r1.2, (⟨IntKind.wrap .i64 (r1.2 + 1), r2, r3, (⟨r4, x1.call.ask.range.hi⟩ : Range), x1.call.ask.most, x1.call.ask.back⟩ : Ask)⟩ : Call)⟩ : Step))).map eStep).length)) by simp <;> omega)) <|
 .p 6 <|
 .bnd (w_markText (IntKind.wrap .i64 ((IntKind.wrap .i64 ((IntKind.wrap .i64 ((IntKind.wrap .i64 ((IntKind.wrap .i64 (r1.2 + 1)) + 1)) + 1)) + 1)) + 1))) fun r5 er5 =>
 .s (.call (k_w_markText (IntKind.wrap .i64 ((IntKind.wrap .i64 ((IntKind.wrap .i64 ((IntKind.wrap .i64 ((IntKind.wrap .i64 (r1.2 + 1)) + 1)) + 1)) + 1)) + 1)) r5 er5) Tryd.call33) <|
 .s (.ixk eStep (by simpa using getI_both ex1) (List.getElem?_set_self (a := (⟨s1.v1, IntKind.wrap .i64 (s1.v1 + 1), IntKind.wrap .i64 ((IntKind.wrap .i64 (s1.v1 + 1)) + 1), r1.1, (⟨r1.2, (⟨IntKind.wrap .i64 (r1.2 + 1), r2, r3, (⟨r4, x1.call.ask.range.hi⟩ : Range), x1.call.ask.most, x1.call.ask.back⟩ : Ask)⟩ : Call)⟩ : Step)) (getI_lt ex1))) <|
 .p 4 <|
 .s (.st eStep ((⟨s1.v1, IntKind.wrap .i64 (s1.v1 + 1), IntKind.wrap .i64 ((IntKind.wrap .i64 (s1.v1 + 1)) + 1), r1.1, (⟨r1.2, (⟨IntKind.wrap .i64 (r1.2 + 1), r2, r3, (⟨r4, r5⟩ : Range), x1.call.ask.most, x1.call.ask.back⟩ : Ask)⟩ : Call)⟩ : Step)) (List.getElem?_set_self (a := (⟨s1.v1, IntKind.wrap .i64 (s1.v1 + 1), IntKind.wrap .i64 ((IntKind.wrap .i64 (s1.v1 + 1)) + 1), r1.1, (⟨r1.2, (⟨IntKind.wrap .i64 (r1.2 + 1), r2, r3, (⟨r4, x1.call.ask.range.hi⟩ : Range), x1.call.ask.most, x1.call.ask.back⟩ : Ask)⟩ : Call)⟩ : Step)) (getI_lt ex1)) (List.set_set (a := (⟨s1.v1, IntKind.wrap .i64 (s1.v1 + 1), IntKind.wrap .i64 ((IntKind.wrap .i64 (s1.v1 + 1)) + 1), r1.1, (⟨r1.2, (⟨IntKind.wrap .i64 (r1.2 + 1), r2, r3, (⟨r4, x1.call.ask.range.hi⟩ : Range), x1.call.ask.most, x1.call.ask.back⟩ : Ask)⟩ : Call)⟩ : Step)) ..)) <|
 .im (.says 0 (show (.one (.so [] 0 0 (((s1.w0_0.set ((s1.v5).toNat) ((⟨s1.v1, IntKind.wrap .i64 (s1.v1 + 1), IntKind.wrap .i64 ((IntKind.wrap .i64 (s1.v1 + 1)) + 1), r1.1, (⟨r1.2, (⟨IntKind.wrap .i64 (r1.2 + 1), r2, r3, (⟨r4, x1.call.ask.range.hi⟩ : Range), x1.call.ask.most, x1.call.ask.back⟩ : Ask)⟩ : Call)⟩ : Step))).map eStep).length)) : TV) = .one (.so [] 0 0 (((s1.w0_0.set ((s1.v5).toNat) ((⟨s1.v1, IntKind.wrap .i64 (s1.v1 + 1), IntKind.wrap .i64 ((IntKind.wrap .i64 (s1.v1 + 1)) + 1), r1.1, (⟨r1.2, (⟨IntKind.wrap .i64 (r1.2 + 1), r2, r3, (⟨r4, r5⟩ : Range), x1.call.ask.most, x1.call.ask.back⟩ : Ask)⟩ : Call)⟩ : Step))).map eStep).length)) by simp <;> omega)) <|
 .p 6 <|
 .s (.ixk eStep (by simpa using getI_both ex1) (List.getElem?_set_self (a := (⟨s1.v1, IntKind.wrap .i64 (s1.v1 + 1), IntKind.wrap .i64 ((IntKind.wrap .i64 (s1.v1 + 1)) + 1), r1.1, (⟨r1.2, (⟨IntKind.wrap .i64 (r1.2 + 1), r2, r3, (⟨r4, r5⟩ : Range), x1.call.ask.most, x1.call.ask.back⟩ : Ask)⟩ : Call)⟩ : Step)) (getI_lt ex1))) <|
 .p 3 <|
 .s (.st eStep ((⟨s1.v1, IntKind.wrap .i64 (s1.v1 + 1), IntKind.wrap .i64 ((IntKind.wrap .i64 (s1.v1 + 1)) + 1), r1.1, (⟨r1.2, (⟨IntKind.wrap .i64 (r1.2 + 1), r2, r3, (⟨r4, r5⟩ : Range), IntKind.wrap .i64 ((IntKind.wrap .i64 ((IntKind.wrap .i64 ((IntKind.wrap .i64 ((IntKind.wrap .i64 ((IntKind.wrap .i64 (r1.2 + 1)) + 1)) + 1)) + 1)) + 1)) + 1), x1.call.ask.back⟩ : Ask)⟩ : Call)⟩ : Step)) (List.getElem?_set_self (a := (⟨s1.v1, IntKind.wrap .i64 (s1.v1 + 1), IntKind.wrap .i64 ((IntKind.wrap .i64 (s1.v1 + 1)) + 1), r1.1, (⟨r1.2, (⟨IntKind.wrap .i64 (r1.2 + 1), r2, r3, (⟨r4, r5⟩ : Range), x1.call.ask.most, x1.call.ask.back⟩ : Ask)⟩ : Call)⟩ : Step)) (getI_lt ex1)) (List.set_set (a := (⟨s1.v1, IntKind.wrap .i64 (s1.v1 + 1), IntKind.wrap .i64 ((IntKind.wrap .i64 (s1.v1 + 1)) + 1), r1.1, (⟨r1.2, (⟨IntKind.wrap .i64 (r1.2 + 1), r2, r3, (⟨r4, r5⟩ : Range), x1.call.ask.most, x1.call.ask.back⟩ : Ask)⟩ : Call)⟩ : Step)) ..)) <|
 .im (.says 0 (show (.one (.so [] 0 0 (((s1.w0_0.set ((s1.v5).toNat) ((⟨s1.v1, IntKind.wrap .i64 (s1.v1 + 1), IntKind.wrap .i64 ((IntKind.wrap .i64 (s1.v1 + 1)) + 1), r1.1, (⟨r1.2, (⟨IntKind.wrap .i64 (r1.2 + 1), r2, r3, (⟨r4, r5⟩ : Range), x1.call.ask.most, x1.call.ask.back⟩ : Ask)⟩ : Call)⟩ : Step))).map eStep).length)) : TV) = .one (.so [] 0 0 (((s1.w0_0.set ((s1.v5).toNat) ((⟨s1.v1, IntKind.wrap .i64 (s1.v1 + 1), IntKind.wrap .i64 ((IntKind.wrap .i64 (s1.v1 + 1)) + 1), r1.1, (⟨r1.2, (⟨IntKind.wrap .i64 (r1.2 + 1), r2, r3, (⟨r4, r5⟩ : Range), IntKind.wrap .i64 ((IntKind.wrap .i64 ((IntKind.wrap .i64 ((IntKind.wrap .i64 ((IntKind.wrap .i64 ((IntKind.wrap .i64 (r1.2 + 1)) + 1)) + 1)) + 1)) + 1)) + 1), x1.call.ask.back⟩ : Ask)⟩ : Call)⟩ : Step))).map eStep).length)) by simp <;> omega)) <|
 .p 8 <|
 .s (.ixk eStep (by simpa using getI_both ex1) (List.getElem?_set_self (a := (⟨s1.v1, IntKind.wrap .i64 (s1.v1 + 1), IntKind.wrap .i64 ((IntKind.wrap .i64 (s1.v1 + 1)) + 1), r1.1, (⟨r1.2, (⟨IntKind.wrap .i64 (r1.2 + 1), r2, r3, (⟨r4, r5⟩ : Range), IntKind.wrap .i64 ((IntKind.wrap .i64 ((IntKind.wrap .i64 ((IntKind.wrap .i64 ((IntKind.wrap .i64 ((IntKind.wrap .i64 (r1.2 + 1)) + 1)) + 1)) + 1)) + 1)) + 1), x1.call.ask.back⟩ : Ask)⟩ : Call)⟩ : Step)) (getI_lt ex1))) <|
 .p 3 <|
 .s (.st eStep ((⟨s1.v1, IntKind.wrap .i64 (s1.v1 + 1), IntKind.wrap .i64 ((IntKind.wrap .i64 (s1.v1 + 1)) + 1), r1.1, (⟨r1.2, (⟨IntKind.wrap .i64 (r1.2 + 1), r2, r3, (⟨r4, r5⟩ : Range), IntKind.wrap .i64 ((IntKind.wrap .i64 ((IntKind.wrap .i64 ((IntKind.wrap .i64 ((IntKind.wrap .i64 ((IntKind.wrap .i64 (r1.2 + 1)) + 1)) + 1)) + 1)) + 1)) + 1), ((Int.tmod (IntKind.wrap .i64 ((IntKind.wrap .i64 ((IntKind.wrap .i64 ((IntKind.wrap .i64 ((IntKind.wrap .i64 ((IntKind.wrap .i64 ((IntKind.wrap .i64 (r1.2 + 1)) + 1)) + 1)) + 1)) + 1)) + 1)) + 1)) 3) == 0)⟩ : Ask)⟩ : Call)⟩ : Step)) (List.getElem?_set_self (a := (⟨s1.v1, IntKind.wrap .i64 (s1.v1 + 1), IntKind.wrap .i64 ((IntKind.wrap .i64 (s1.v1 + 1)) + 1), r1.1, (⟨r1.2, (⟨IntKind.wrap .i64 (r1.2 + 1), r2, r3, (⟨r4, r5⟩ : Range), IntKind.wrap .i64 ((IntKind.wrap .i64 ((IntKind.wrap .i64 ((IntKind.wrap .i64 ((IntKind.wrap .i64 ((IntKind.wrap .i64 (r1.2 + 1)) + 1)) + 1)) + 1)) + 1)) + 1), x1.call.ask.back⟩ : Ask)⟩ : Call)⟩ : Step)) (getI_lt ex1)) (List.set_set (a := (⟨s1.v1, IntKind.wrap .i64 (s1.v1 + 1), IntKind.wrap .i64 ((IntKind.wrap .i64 (s1.v1 + 1)) + 1), r1.1, (⟨r1.2, (⟨IntKind.wrap .i64 (r1.2 + 1), r2, r3, (⟨r4, r5⟩ : Range), IntKind.wrap .i64 ((IntKind.wrap .i64 ((IntKind.wrap .i64 ((IntKind.wrap .i64 ((IntKind.wrap .i64 ((IntKind.wrap .i64 (r1.2 + 1)) + 1)) + 1)) + 1)) + 1)) + 1), x1.call.ask.back⟩ : Ask)⟩ : Call)⟩ : Step)) ..)) <|
 .im (.says 0 (show (.one (.so [] 0 0 (((s1.w0_0.set ((s1.v5).toNat) ((⟨s1.v1, IntKind.wrap .i64 (s1.v1 + 1), IntKind.wrap .i64 ((IntKind.wrap .i64 (s1.v1 + 1)) + 1), r1.1, (⟨r1.2, (⟨IntKind.wrap .i64 (r1.2 + 1), r2, r3, (⟨r4, r5⟩ : Range), IntKind.wrap .i64 ((IntKind.wrap .i64 ((IntKind.wrap .i64 ((IntKind.wrap .i64 ((IntKind.wrap .i64 ((IntKind.wrap .i64 (r1.2 + 1)) + 1)) + 1)) + 1)) + 1)) + 1), x1.call.ask.back⟩ : Ask)⟩ : Call)⟩ : Step))).map eStep).length)) : TV) = .one (.so [] 0 0 (((s1.w0_0.set ((s1.v5).toNat) ((⟨s1.v1, IntKind.wrap .i64 (s1.v1 + 1), IntKind.wrap .i64 ((IntKind.wrap .i64 (s1.v1 + 1)) + 1), r1.1, (⟨r1.2, (⟨IntKind.wrap .i64 (r1.2 + 1), r2, r3, (⟨r4, r5⟩ : Range), IntKind.wrap .i64 ((IntKind.wrap .i64 ((IntKind.wrap .i64 ((IntKind.wrap .i64 ((IntKind.wrap .i64 ((IntKind.wrap .i64 (r1.2 + 1)) + 1)) + 1)) + 1)) + 1)) + 1), ((Int.tmod (IntKind.wrap .i64 ((IntKind.wrap .i64 ((IntKind.wrap .i64 ((IntKind.wrap .i64 ((IntKind.wrap .i64 ((IntKind.wrap .i64 ((IntKind.wrap .i64 (r1.2 + 1)) + 1)) + 1)) + 1)) + 1)) + 1)) + 1)) 3) == 0)⟩ : Ask)⟩ : Call)⟩ : Step))).map eStep).length)) by simp <;> omega)) <|
 .p 6 <|
 .ret (.inl ((⟨IntKind.wrap .i64 ((IntKind.wrap .i64 ((IntKind.wrap .i64 ((IntKind.wrap .i64 ((IntKind.wrap .i64 ((IntKind.wrap .i64 ((IntKind.wrap .i64 ((IntKind.wrap .i64 (r1.2 + 1)) + 1)) + 1)) + 1)) + 1)) + 1)) + 1)) + 1), IntKind.wrap .i64 (s1.v5 + 1), s1.w0_0.set ((s1.v5).toNat) ((⟨s1.v1, IntKind.wrap .i64 (s1.v1 + 1), IntKind.wrap .i64 ((IntKind.wrap .i64 (s1.v1 + 1)) + 1), r1.1, (⟨r1.2, (⟨IntKind.wrap .i64 (r1.2 + 1), r2, r3, (⟨r4, r5⟩ : Range), IntKind.wrap .i64 ((IntKind.wrap .i64 ((IntKind.wrap .i64 ((IntKind.wrap .i64 ((IntKind.wrap .i64 ((IntKind.wrap .i64 (r1.2 + 1)) + 1)) + 1)) + 1)) + 1)) + 1), ((Int.tmod (IntKind.wrap .i64 ((IntKind.wrap .i64 ((IntKind.wrap .i64 ((IntKind.wrap .i64 ((IntKind.wrap .i64 ((IntKind.wrap .i64 ((IntKind.wrap .i64 (r1.2 + 1)) + 1)) + 1)) + 1)) + 1)) + 1)) + 1)) 3) == 0)⟩ : Ask)⟩ : Call)⟩ : Step))⟩ : Sw_markStepS_1))))
 (.ret (.inr ((⟨s1.v1, s1.w0_0⟩ : Xw_markStepS_1))))

noncomputable def ww_markStepS (p0 : (List Step)) (p1 : Int) : Wk ((List Step) × Int) :=
 .p 2 <|
 .jn true (ι := Xw_markStepS_1) (fun j => ms 120 [(0, .one (.so [] 0 0 (((j.w0_0).map eStep).length))), (1, iV j.v1)] [(0, [lC 12 eStep j.w0_0])])
 (.eb <|
 .loop (σ := Sw_markStepS_1) (fun s1 => ms 120 [(0, .one (.so [] 0 0 (((s1.w0_0).map eStep).length))), (1, iV s1.v1), (5, iV s1.v5)] [(0, [lC 12 eStep s1.w0_0])]) ((⟨p1, 0, p0⟩ : Sw_markStepS_1)) (Bw_markStepS_1)) fun j1 =>
 .p 2 <|
 .ret ((j1.w0_0, j1.v1))
/-- laws.markStepS -/
noncomputable def w_markStepS (p0 : (List Step)) (p1 : Int) : Option ((List Step) × Int) := (ww_markStepS p0 p1).den
theorem k_w_markStepS (p0 : (List Step)) (p1 : Int) (v : (List Step) × Int) (h : w_markStepS p0 p1 = some v) : CallG Tryd.prog 13 [lC 12 eStep p0] [.one (.so [] 0 0 (((p0).map eStep).length)), iV p1] [lC 12 eStep v.1] (iV v.2) [] :=
  (ww_markStepS p0 p1).callg tyOK Tryd.func13 rfl (outs := (fun v : (List Step) × Int => [lC 12 eStep v.1])) (res := (fun v : (List Step) × Int => iV v.2)) (row := (fun v : (List Step) × Int => [])) (Nat.le_of_ble_eq_true rfl) (by kernel_rfl) h

structure Sw_heldIntS_1 where
  v1 : Int
  v5 : Int

noncomputable def Bw_heldIntS_1 (p0 : (List Int)) (s1 : Sw_heldIntS_1) : Wk (Sw_heldIntS_1 ⊕ (Int ⊕ (Int))) :=
 .p 4 <|
 .ite (decide (s1.v5 < (((((p0).map eInt).length : Nat) : Int))))
 (.eb <|
 .p 2 <|
 .bnd (getI p0 s1.v5) fun x1 ex1 =>
 .s (.idx eInt ex1) <|
 .p 3 <|
 .ite ((x1 != s1.v1))
 (.p 1 <|
 .ret (.inr (.inr (-1))))
 (.p 6 <|
 .ret (.inl ((⟨IntKind.wrap .i64 (s1.v1 + 1), IntKind.wrap .i64 (s1.v5 + 1)⟩ : Sw_heldIntS_1)))))
 (.ret (.inr (.inl s1.v1)))

noncomputable def ww_heldIntS (p0 : (List Int)) (p1 : Int) : Wk (Int) :=
 .p 2 <|
 .join true (ι := Int) (fun j => ms 21 [(1, iV j)] [])
 (.eb <|
 .loop (σ := Sw_heldIntS_1) (fun s1 => ms 21 [(0, lV 1 eInt p0), (1, iV s1.v1), (5, iV s1.v5)] []) ((⟨p1, 0⟩ : Sw_heldIntS_1)) (Bw_heldIntS_1 p0)) fun j1 =>
 .p 2 <|
 .ret j1
/-- laws.heldIntS -/
noncomputable def w_heldIntS (p0 : (List Int)) (p1 : Int) : Option (Int) := (ww_heldIntS p0 p1).den
theorem k_w_heldIntS (p0 : (List Int)) (p1 : Int) (v : Int) (h : w_heldIntS p0 p1 = some v) : CallOK Tryd.prog 28 [lV 1 eInt p0, iV p1] (iV v) [] :=
  (ww_heldIntS p0 p1).call tyOK Tryd.func28 rfl (res := (fun v : Int => iV v)) (row := (fun v : Int => [])) (by kernel_rfl) h


end Go.Proofs.YtagoajkiccgmjaaDoor
namespace Go.Proofs.YtagoajkiccgmjaaDoor
open Go.Mv Go.RowKit

structure Sw_heldStepS_1 where
  v1 : Int
  v5 : Int

noncomputable def Bw_heldStepS_1 (p0 : (List Step)) (s1 : Sw_heldStepS_1) : Wk (Sw_heldStepS_1 ⊕ (Int ⊕ (Int))) :=
 .p 4 <|
 .ite (decide (s1.v5 < (((((p0).map eStep).length : Nat) : Int))))
 (.eb <|
 .p 2 <|
 .bnd (getI p0 s1.v5) fun x1 ex1 =>
 .s (.idx eStep ex1) <|
 .p 4 <|
 .ite ((x1.kind != s1.v1))
 (.p 1 <|
 .ret (.inr (.inr (-1))))
 (.p 5 <|
 .bnd (getI p0 s1.v5) fun x2 ex2 =>
 .s (.idx eStep ex2) <|
 .p 4 <|
 .ite ((x2.a != (IntKind.wrap .i64 (s1.v1 + 1))))
 (.p 1 <|
 .ret (.inr (.inr (-1))))
 (.p 5 <|
 .bnd (getI p0 s1.v5) fun x3 ex3 =>
 .s (.idx eStep ex3) <|
 .p 4 <|
 .ite ((x3.b != (IntKind.wrap .i64 ((IntKind.wrap .i64 (s1.v1 + 1)) + 1))))
 (.p 1 <|
 .ret (.inr (.inr (-1))))
 (.p 5 <|
 .bnd (getI p0 s1.v5) fun x4 ex4 =>
 .s (.idx eStep ex4) <|
 .p 3 <|
 .bnd (w_heldIntS x4.keep (IntKind.wrap .i64 ((IntKind.wrap .i64 ((IntKind.wrap .i64 (s1.v1 + 1)) + 1)) + 1))) fun r1 er1 =>
 .s (.call (k_w_heldIntS x4.keep (IntKind.wrap .i64 ((IntKind.wrap .i64 ((IntKind.wrap .i64 (s1.v1 + 1)) + 1)) + 1)) r1 er1) Tryd.call28) <|
 .p 3 <|
 .ite (decide (r1 < 0))
 (.p 1 <|
 .ret (.inr (.inr (-1))))
 (.p 2 <|
 .bnd (getI p0 s1.v5) fun x5 ex5 =>
 .s (.idx eStep ex5) <|
 .p 5 <|
 .ite ((x5.call.kind != r1))
 (.p 1 <|
 .ret (.inr (.inr (-1))))
 (.p 5 <|
 .bnd (getI p0 s1.v5) fun x6 ex6 =>
 .s (.idx eStep ex6) <|
 .p 6 <|
 .ite ((x6.call.ask.kind != (IntKind.wrap .i64 (r1 + 1))))
 (.p 1 <|
 .ret (.inr (.inr (-1))))
 (.p 3 <|
 .bnd (getI p0 s1.v5) fun x7 ex7 =>
 .bnd (w_markText (IntKind.wrap .i64 ((IntKind.wrap .i64 (r1 + 1)) + 1))) fun r2 er2 =>
 .drawn [] [(2, .idx eStep ex7), (8, .call (k_w_markText (IntKind.wrap .i64 ((IntKind.wrap .i64 (r1 + 1)) + 1)) r2 er2) Tryd.call33)] (ms 144 [(0, lV 12 eStep p0), (1, iV (IntKind.wrap .i64 ((IntKind.wrap .i64 (r1 + 1)) + 1))), (5, iV s1.v5), (78, bV (!(x7.call.ask.key.toList == r2.toList)))] []) <|
 .ite (!(x7.call.ask.key.toList == r2.toList))
 (.p 1 <|
 .ret (.inr (.inr (-1))))
 (.p 3 <|
 .bnd (getI p0 s1.v5) fun x8 ex8 =>
 .bnd (w_markText (IntKind.wrap .i64 ((IntKind.wrap .i64 ((IntKind.wrap .i64 (r1 + 1)) + 1)) + 1))) fun r3 er3 =>
 .drawn [] [(2, .idx eStep ex8), (8, .call (k_w_markText (IntKind.wrap .i64 ((IntKind.wrap .i64 ((IntKind.wrap .i64 (r1 + 1)) + 1)) + 1)) r3 er3) Tryd.call33)] (ms 144 [(0, lV 12 eStep p0), (1, iV (IntKind.wrap .i64 ((IntKind.wrap .i64 ((IntKind.wrap .i64 (r1 + 1)) + 1)) + 1))), (5, iV s1.v5), (90, bV (!(x8.call.ask.val.toList == r3.toList)))] []) <|
 .ite (!(x8.call.ask.val.toList == r3.toList))
 (.p 1 <|
 .ret (.inr (.inr (-1))))
 (.p 3 <|
 .bnd (getI p0 s1.v5) fun x9 ex9 =>
 .bnd (w_markText (IntKind.wrap .i64 ((IntKind.wrap .i64 ((IntKind.wrap .i64 ((IntKind.wrap .i64 (r1 + 1)) + 1)) + 1)) + 1))) fun r4 er4 =>
 .drawn [] [(2, .idx eStep ex9), (9, .call (k_w_markText (IntKind.wrap .i64 ((IntKind.wrap .i64 ((IntKind.wrap .i64 ((IntKind.wrap .i64 (r1 + 1)) + 1)) + 1)) + 1)) r4 er4) Tryd.call33)] (ms 144 [(0, lV 12 eStep p0), (1, iV (IntKind.wrap .i64 ((IntKind.wrap .i64 ((IntKind.wrap .i64 ((IntKind.wrap .i64 (r1 + 1)) + 1)) + 1)) + 1))), (5, iV s1.v5), (103, bV (!(x9.call.ask.range.lo.toList == r4.toList)))] []) <|
 .ite (!(x9.call.ask.range.lo.toList == r4.toList))
 (.p 1 <|
 .ret (.inr (.inr (-1))))
 (.p 3 <|
 .bnd (getI p0 s1.v5) fun x10 ex10 =>
 .bnd (w_markText (IntKind.wrap .i64 ((IntKind.wrap .i64 ((IntKind.wrap .i64 ((IntKind.wrap .i64 ((IntKind.wrap .i64 (r1 + 1)) + 1)) + 1)) + 1)) + 1))) fun r5 er5 =>
 .drawn [] [(2, .idx eStep ex10), (9, .call (k_w_markText (IntKind.wrap .i64 ((IntKind.wrap .i64 ((IntKind.wrap .i64 ((IntKind.wrap .i64 ((IntKind.wrap .i64 (r1 + 1)) + 1)) + 1)) + 1)) + 1)) r5 er5) Tryd.call33)] (ms 144 [(0, lV 12 eStep p0), (1, iV (IntKind.wrap .i64 ((IntKind.wrap .i64 ((IntKind.wrap .i64 ((IntKind.wrap .i64 ((IntKind.wrap .i64 (r1 + 1)) + 1)) + 1)) + 1)) + 1))), (5, iV s1.v5), (116, bV (!(x10.call.ask.range.hi.toList == r5.toList)))] []) <|
 .ite (!(x10.call.ask.range.hi.toList == r5.toList))
 (.p 1 <|
 .ret (.inr (.inr (-1))))
 (.p 5 <|
 .bnd (getI p0 s1.v5) fun x11 ex11 =>
 .s (.idx eStep ex11) <|
 .p 6 <|
 .ite ((x11.call.ask.most != (IntKind.wrap .i64 ((IntKind.wrap .i64 ((IntKind.wrap .i64 ((IntKind.wrap .i64 ((IntKind.wrap .i64 ((IntKind.wrap .i64 (r1 + 1)) + 1)) + 1)) + 1)) + 1)) + 1))))
 (.p 1 <|
 .ret (.inr (.inr (-1))))
 (.p 5 <|
 .bnd (getI p0 s1.v5) fun x12 ex12 =>
 .s (.idx eStep ex12) <|
 .p 8 <|
 .ite (!(x12.call.ask.back == (((Int.tmod (IntKind.wrap .i64 ((IntKind.wrap .i64 ((IntKind.wrap .i64 ((IntKind.wrap .i64 ((IntKind.wrap .i64 ((IntKind.wrap .i64 ((IntKind.wrap .i64 (r1 + 1)) + 1)) + 1)) + 1)) + 1)) + 1)) + 1)) 3) == 0))))
 (.p 1 <|
 .ret (.inr (.inr (-1))))
 (.p 6 <|
 .ret (.inl ((⟨IntKind.wrap .i64 ((IntKind.wrap .i64 ((IntKind.wrap .i64 ((IntKind.wrap .i64 ((IntKind.wrap .i64 ((IntKind.wrap .i64 ((IntKind.wrap .i64 ((IntKind.wrap .i64 (r1 + 1)) + 1)) + 1)) + 1)) + 1)) + 1)) + 1)) + 1), IntKind.wrap .i64 (s1.v5 + 1)⟩ : Sw_heldStepS_1))))))))))))))))
 (.ret (.inr (.inl s1.v1)))

noncomputable def ww_heldStepS (p0 : (List Step)) (p1 : Int) : Wk (Int) :=
 .p 2 <|
 .join true (ι := Int) (fun j => ms 144 [(1, iV j)] [])
 (.eb <|
 .loop (σ := Sw_heldStepS_1) (fun s1 => ms 144 [(0, lV 12 eStep p0), (1, iV s1.v1), (5, iV s1.v5)] []) ((⟨p1, 0⟩ : Sw_heldStepS_1)) (Bw_heldStepS_1 p0)) fun j1 =>
 .p 2 <|
 .ret j1
/-- laws.heldStepS -/
noncomputable def w_heldStepS (p0 : (List Step)) (p1 : Int) : Option (Int) := (ww_heldStepS p0 p1).den
theorem k_w_heldStepS (p0 : (List Step)) (p1 : Int) (v : Int) (h : w_heldStepS p0 p1 = some v) : CallOK Tryd.prog 14 [lV 12 eStep p0, iV p1] (iV v) [] :=
  (ww_heldStepS p0 p1).call tyOK Tryd.func14 rfl (res := (fun v : Int => iV v)) (row := (fun v : Int => [])) (by kernel_rfl) h

noncomputable def ww_FnExactReadScript (p0 : ByteArray) : Wk (Bool) :=
 .p 4 <|
 .ite (decide (((p0.size : Int)) > 1048576))
 (.p 1 <|
 .ret true)
 (.p 1 <|
 .bnd (s_ReadScript p0) fun r1 er1 =>
 .s (.call (k_s_ReadScript p0 r1 er1) Tryd.call10) <|
 .p 6 <|
 .bnd (i_ReadScript p0) fun r2 er2 =>
 .s (.call (k_i_ReadScript p0 r2 er2) Tryd.call11) <|
 .p 5 <|
 .jn false (ι := Bool) (fun j => ms 66 [(0, sV p0), (3, .one (.so [] 16 0 (((r1.1).map eStep).length))), (4, iV r1.2), (5, .one (.so [] 21 0 (((r2.1).map eStep).length))), (32, bV j)] [(16, [lC 12 eStep r1.1]), (21, [lC 12 eStep r2.1])])
 (.p 2 <|
 .bnd (w_eqStepS r2.1 r1.1) fun r3 er3 =>
 .s (.lend (k_w_eqStepS r2.1 r1.1 r3 er3) Tryd.call12 (clean_nil)) <|
 .p 2 <|
 .cut 28 (!r3)
 (.p 4 <|
 .ret true)
 (.p 4 <|
 .ret ((r2.2 != r1.2)))) fun j1 =>
 .ite (j1)
 (.p 1 <|
 .ret false)
 (.p 3 <|
 .bnd (w_markStepS r2.1 1) fun r4 er4 =>
 .chk ((r4.1).length = (r2.1).length) fun c1 =>
 .s (.g (k_w_markStepS r2.1 1 r4 er4) Tryd.call13 (.sl (by simpa using c1) .nil)) <|
 .p 4 <|
 .im (.says 36 (show (.one (.so [] 21 0 (((r2.1).map eStep).length)) : TV) = .one (.so [] 21 0 (((r4.1).map eStep).length)) by simp <;> omega)) <|
 .bnd (w_heldStepS r4.1 1) fun r5 er5 =>
 .s (.lend (k_w_heldStepS r4.1 1 r5 er5) Tryd.call14 (clean_nil)) <|
 .p 3 <|
 .ite (decide (r5 < 0))
 (.p 1 <|
 .ret false)
 (.p 3 <|
 .ite ((r5 != r4.2))
 (.p 1 <|
 .ret false)
 (.p 1 <|
 .bnd (i_ReadScript p0) fun r6 er6 =>
 .s (.call (k_i_ReadScript p0 r6 er6) Tryd.call11) <|
 .p 5 <|
 .jn false (ι := Bool) (fun j => ms 66 [(5, .one (.so [] 21 0 (((r2.1).map eStep).length))), (7, iV r4.2), (57, bV j)] [(21, [lC 12 eStep r4.1])])
 (.p 2 <|
 .bnd (w_eqStepS r6.1 r1.1) fun r7 er7 =>
 .s (.lend (k_w_eqStepS r6.1 r1.1 r7 er7) Tryd.call12 (clean_nil)) <|
 .p 2 <|
 .cut 53 (!r7)
 (.p 4 <|
 .ret true)
 (.p 4 <|
 .ret ((r6.2 != r1.2)))) fun j2 =>
 .ite (j2)
 (.p 1 <|
 .ret false)
 (.p 3 <|
 .im (.says 58 (show (.one (.so [] 21 0 (((r2.1).map eStep).length)) : TV) = .one (.so [] 21 0 (((r4.1).map eStep).length)) by simp <;> omega)) <|
 .bnd (w_heldStepS r4.1 1) fun r8 er8 =>
 .s (.lend (k_w_heldStepS r4.1 1 r8 er8) Tryd.call14 (clean_nil)) <|
 .p 3 <|
 .ite (decide (r8 < 0))
 (.p 1 <|
 .ret false)
 (.p 3 <|
 .ite ((r8 != r4.2))
 (.p 1 <|
 .ret false)
 (.p 1 <|
 .ret true)))))))
/-- laws.FnExactReadScript -/
noncomputable def w_FnExactReadScript (p0 : ByteArray) : Option (Bool) := (ww_FnExactReadScript p0).den
theorem k_w_FnExactReadScript (p0 : ByteArray) (v : Bool) (h : w_FnExactReadScript p0 = some v) : CallOK Tryd.prog 4 [sV p0] (bV v) [] :=
  (ww_FnExactReadScript p0).call tyOK Tryd.func4 rfl (res := (fun v : Bool => bV v)) (row := (fun v : Bool => [])) (by kernel_rfl) h

end Go.Proofs.YtagoajkiccgmjaaDoor
namespace Go.Proofs.YtagoajkiccgmjaaDoor
open Go.Mv Go.RowKit

/-! ### Numbers as texts -/
noncomputable def l01Num (n : Int) : Bool := bif decide (n ≥ 0) then decide (n ≤ 1099511627775) else false
theorem s_l01Num_eq (n : Int) : s_l01Num n = some (l01Num n) := by simp only [s_l01Num, ws_l01Num, W.D, l01Num]
theorem i_within_eq (a b c : Int) : i_within a b c = some (bif decide (a ≥ b) then decide (a ≤ c) else false) := by simp only [i_within, wi_within, W.D]
theorem i_isNum_eq (n : Int) : i_isNum n = some (l01Num n) := by simp only [i_isNum, wi_isNum, W.D, i_within_eq, l01Num]
theorem mv_size_mk (a : Array UInt8) : (⟨a⟩ : ByteArray).size = a.size := rfl
theorem byteAt_lo (s : ByteArray) (n : Int) : 0 ≤ byteAt s n := by unfold byteAt; split <;> omega
theorem byteAt_hi (s : ByteArray) (n : Int) : byteAt s n < 256 := by
  unfold byteAt
  split
  · rename_i h
    have := (s[n.toNat]'h).toNat_lt
    omega
  · omega
noncomputable def bytesOf (s : ByteArray) : List Int := (List.range s.size).map fun k => byteAt s ((k : Nat) : Int)
theorem bytesOf_length (s : ByteArray) : (bytesOf s).length = s.size := by simp [bytesOf]
theorem drop_bytes {s : ByteArray} {k : Nat} (h : k < s.size) : (bytesOf s).drop k = byteAt s ((k : Nat) : Int) :: (bytesOf s).drop (k + 1) :=
  drop_of_get (by simp [bytesOf, h])
theorem cat_le {a b : ByteArray} (ha : a.size ≤ 2 ^ 46) (hb : b.size ≤ 2 ^ 46) : a.size + b.size ≤ 140737488355328 := Nat.le_trans (Nat.add_le_add ha hb) (Nat.le_of_ble_eq_true rfl)
theorem app_le {a b : ByteArray} {n : Nat} (ha : a.size ≤ 2 ^ n) (hb : b.size ≤ 2 ^ n) : (a ++ b).size ≤ 2 ^ (n + 1) := by
  rw [ByteArray.size_append, Nat.pow_succ]; omega
theorem cond_le {c : Bool} {a b : ByteArray} {n : Nat} (ha : a.size ≤ n) (hb : b.size ≤ n) : (bif c then a else b).size ≤ n := by
  cases c <;> assumption
theorem le2 {a n m : Nat} (h : a ≤ n) (hb : Nat.ble n (2 ^ m) = true) : a ≤ 2 ^ m := Nat.le_trans h (Nat.le_of_ble_eq_true hb)
theorem lit_le {a : Array UInt8} {m : Nat} (hb : Nat.ble a.size (2 ^ m) = true) : (⟨a⟩ : ByteArray).size ≤ 2 ^ m := Nat.le_of_ble_eq_true hb
theorem l01_iff (n : Int) : l01Num n = true ↔ 0 ≤ n ∧ n ≤ 1099511627775 := by
  unfold l01Num
  by_cases h1 : n ≥ 0 <;> by_cases h2 : n ≤ 1099511627775 <;> simp [h1, h2] <;> omega
theorem tdiv_small {n : Int} (h0 : 0 ≤ n) (h1 : n ≤ 1099511627775) : IntKind.wrap .i64 (Int.tdiv n 10) = n / 10 := by
  rw [Int.tdiv_eq_ediv_of_nonneg h0, mv_wrap (by omega) (by omega)]
theorem numDec {n : Int} (h1 : l01Num n = true) (h2 : ¬ n < 10) : (IntKind.wrap .i64 (Int.tdiv n 10)).toNat < n.toNat := by
  have := (l01_iff n).1 h1
  rw [tdiv_small this.1 this.2]
  omega
noncomputable def numText (n : Int) : ByteArray :=
  if h1 : l01Num n = true then
    if h2 : n < 10 then byteB (IntKind.wrap .u8 (IntKind.wrap .i64 (48 + n)))
    else numText (IntKind.wrap .i64 (Int.tdiv n 10)) ++ byteB (IntKind.wrap .u8 (IntKind.wrap .i64 (48 + (Int.tmod n 10))))
  else ⟨#[]⟩
  termination_by n.toNat
  decreasing_by exact numDec h1 h2
theorem numText_le : ∀ (k : Nat) (n : Int), n < 10 ^ (k + 1) → (numText n).size ≤ k + 1
  | 0, n, h => by
    rw [numText]
    split
    · rw [dif_pos (by simpa using h)]; exact Nat.le_refl 1
    · exact Nat.zero_le _
  | k + 1, n, h => by
    rw [numText]
    split
    · rename_i h1
      have := (l01_iff n).1 h1
      split
      · exact Nat.le_add_left 1 _
      · have h3 := numText_le k (IntKind.wrap .i64 (Int.tdiv n 10)) (by rw [tdiv_small this.1 this.2]; rw [Int.pow_succ] at h; omega)
        rw [ByteArray.size_append, byteB_size]
        omega
    · exact Nat.zero_le _
theorem numText_size (n : Int) : (numText n).size ≤ 13 := by
  by_cases h : n ≤ 1099511627775
  · exact numText_le 12 n (by omega)
  · rw [numText, dif_neg (by rw [l01_iff]; omega)]
    exact Nat.zero_le _
theorem l01_of {m : Int} (h0 : 0 ≤ m) (hM : m ≤ 1099511627775) : l01Num m = true := (l01_iff m).2 ⟨h0, hM⟩
theorem outSize {m n : Int} {o : ByteArray} (hR : numText m ++ o = numText n) : o.size ≤ 13 := by
  have h1 := numText_size n
  rw [← hR, ByteArray.size_append] at h1
  omega
theorem numIn {n : Int} (h : l01Num n = true) : 0 ≤ n ∧ n ≤ 1099511627775 ∧ numText n ++ ⟨#[]⟩ = numText n := by
  have := (l01_iff n).1 (h)
  exact ⟨this.1, this.2, ByteArray.append_empty⟩
theorem numBack {m n : Int} {o : ByteArray} (h0 : 0 ≤ m) (hM : m ≤ 1099511627775) (g : m > 9) (hR : numText m ++ o = numText n) : 0 ≤ IntKind.wrap .i64 (Int.tdiv m 10) ∧ IntKind.wrap .i64 (Int.tdiv m 10) ≤ 1099511627775 ∧
    numText (IntKind.wrap .i64 (Int.tdiv m 10)) ++ (byteB (IntKind.wrap .u8 (IntKind.wrap .i64 (48 + (Int.tmod m 10)))) ++ o) = numText n := by
  refine ⟨by rw [tdiv_small h0 hM]; omega, by rw [tdiv_small h0 hM]; omega, ?_⟩
  rw [← hR, numText.eq_def m, dif_pos (l01_of h0 hM), dif_neg (by omega), ByteArray.append_assoc]
theorem numLess {m : Int} (h0 : 0 ≤ m) (hM : m ≤ 1099511627775) (g : m > 9) : (IntKind.wrap .i64 (Int.tdiv m 10)).toNat < m.toNat := by
  rw [tdiv_small h0 hM]; omega
theorem num_lo {n : Int} (h : l01Num n = true) (h2 : n < 10) : numText n = byteB (IntKind.wrap .u8 (IntKind.wrap .i64 (48 + n))) := by rw [numText, dif_pos h, dif_pos h2]
theorem num_hi {n : Int} (h : l01Num n = true) (h2 : ¬ n < 10) : numText n = numText (IntKind.wrap .i64 (Int.tdiv n 10)) ++ byteB (IntKind.wrap .u8 (IntKind.wrap .i64 (48 + (Int.tmod n 10)))) := by rw [numText, dif_pos h, dif_neg h2]
theorem num_no {n : Int} (h : l01Num n = false) : numText n = ⟨#[]⟩ := by rw [numText, dif_neg (by simp [h])]
theorem numR_u : ∀ (k : Nat) (n : Int) (v : ByteArray), (s_NumText_R k).1 n = some v → v = numText n
  | 0, _, _, h => nomatch h
  | k + 1, n, v, h => by
    have h' : (ws_NumText (s_NumText_R k).1 (s_NumText_R k).2 n).den = some v := h
    simp only [ws_NumText, W.D, s_l01Num_eq] at h'
    cases hn : l01Num n with
    | false => rw [hn] at h'; simp only [Bool.not_false, cond_true, Option.some.injEq] at h'; rw [num_no hn, h']
    | true =>
      rw [hn] at h'
      simp only [Bool.not_true, cond_false] at h'
      by_cases h2 : n < 10
      · rw [decide_eq_true h2, cond_true, Option.some.injEq] at h'; rw [num_lo hn h2, h']
      · rw [decide_eq_false h2, cond_false] at h'
        obtain ⟨r, h3, h4⟩ := bnd_e h'
        rw [numR_u k _ r h3] at h4
        split at h4
        · rw [num_hi hn h2]; exact (Option.some.inj h4).symm
        · cases h4
theorem numR_e : ∀ (m : Nat) (n : Int), n.toNat ≤ m → ∃ k, (s_NumText_R k).1 n = some (numText n)
  | m, n, hm => by
    cases hn : l01Num n with
    | false =>
      refine ⟨1, ?_⟩
      show (ws_NumText (s_NumText_R 0).1 (s_NumText_R 0).2 n).den = _
      simp only [ws_NumText, W.D, s_l01Num_eq, hn, Bool.not_false, cond_true, num_no hn]
    | true =>
      by_cases h2 : n < 10
      · refine ⟨1, ?_⟩
        show (ws_NumText (s_NumText_R 0).1 (s_NumText_R 0).2 n).den = _
        simp only [ws_NumText, W.D, s_l01Num_eq, hn, Bool.not_true, cond_false, decide_eq_true h2, cond_true, num_lo hn h2]
      · have hd := numDec hn h2
        match m, hm with
        | 0, hm => omega
        | m + 1, hm =>
        obtain ⟨k, hk⟩ := numR_e m (IntKind.wrap .i64 (Int.tdiv n 10)) (by omega)
        refine ⟨k + 1, ?_⟩
        show (ws_NumText (s_NumText_R k).1 (s_NumText_R k).2 n).den = _
        have hs := numText_size (IntKind.wrap .i64 (Int.tdiv n 10))
        simp only [ws_NumText, W.D, s_l01Num_eq, hn, Bool.not_true, cond_false, decide_eq_false h2, hk]
        rw [if_pos (by rw [byteB_size]; omega), num_hi hn h2]
theorem s_NumText_eq (n : Int) : s_NumText n = some (numText n) := by
  obtain ⟨k, hk⟩ := numR_e n.toNat n (Nat.le_refl _)
  exact lim_val k hk fun k v' h => numR_u k n v' h
theorem i_NumText_eq (n : Int) : i_NumText n = some (numText n) := by
  simp only [i_NumText, wi_NumText, W.D, i_isNum_eq]
  cases hn : l01Num n with
  | false => simp only [Bool.not_false, cond_true, num_no hn]
  | true =>
    simp only [Bool.not_true, cond_false]
    obtain ⟨h0, hM, hE⟩ := numIn hn
    obtain ⟨j, hj, h1, h2, h3, h4⟩ := loopT_ex (f := fun s => (Bi_NumText_1 s).den) (fun j : Xi_NumText_1 => 0 ≤ j.v0 ∧ j.v0 ≤ 9 ∧ numText j.v0 ++ j.v3 = numText n ∧ j.v3.size ≤ 13)
      (fun s : Si_NumText_1 => 0 ≤ s.v0 ∧ s.v0 ≤ 1099511627775 ∧ numText s.v0 ++ s.v3 = numText n) (fun s => s.v0.toNat) (fun s hs => by
        obtain ⟨g0, gM, gE⟩ := hs
        have gs := outSize gE
        simp only [Bi_NumText_1, W.D]
        by_cases g : s.v0 > 9
        · right
          rw [decide_eq_true g, cond_true, if_pos (by rw [byteB_size]; omega)]
          exact ⟨_, rfl, numBack g0 gM g gE, numLess g0 gM g⟩
        · left
          rw [decide_eq_false g, cond_false]
          exact ⟨_, rfl, g0, by show s.v0 ≤ 9; omega, gE, gs⟩) ⟨n, ⟨#[]⟩⟩ ⟨h0, hM, hE⟩
    rw [hj]
    simp only [W.D]
    rw [if_pos (by rw [byteB_size]; omega)]
    rw [num_lo (l01_of h1 (by omega)) (by omega)] at h3
    rw [h3]
end Go.Proofs.YtagoajkiccgmjaaDoor
namespace Go.Proofs.YtagoajkiccgmjaaDoor
open Go.Mv Go.RowKit

/-! ### Numbers read -/
theorem byteAt_get {s : ByteArray} {k : Nat} (h : k < s.size) : byteAt s (k : Int) = ((s.data.toList[k]'(by simpa using h)).toNat : Int) := by
  unfold byteAt
  rw [dif_pos (by simpa using h)]
  rfl
theorem bytesOf_eq (s : ByteArray) : bytesOf s = s.data.toList.map fun b => (b.toNat : Int) := by
  apply List.ext_getElem
  · simp [bytesOf]
  · intro k h1 h2
    have hk : k < s.size := by simpa [bytesOf] using h1
    simp only [bytesOf, List.getElem_map, List.getElem_range]
    exact byteAt_get hk
theorem bytesOf_app (a b : ByteArray) : bytesOf (a ++ b) = bytesOf a ++ bytesOf b := by
  rw [bytesOf_eq, bytesOf_eq, bytesOf_eq, ByteArray.data_append, Array.toList_append, List.map_append]
theorem bytesOf_byteB {x : Int} (h0 : 0 ≤ x) (h1 : x < 256) : bytesOf (byteB x) = [x] := by
  rw [bytesOf_eq]
  show [((UInt8.ofNat x.toNat).toNat : Int)] = [x]
  congr 1
  simp
  omega
noncomputable def dig (b : Int) : Bool := bif decide (b < 48) then false else !decide (b > 57)
theorem dig_iff (b : Int) : dig b = true ↔ 48 ≤ b ∧ b ≤ 57 := by
  unfold dig
  by_cases h1 : b < 48 <;> by_cases h2 : b > 57 <;> simp [h1, h2] <;> omega
noncomputable def digV : List Int → Int → Int
  | [], a => a
  | b :: l, a => digV l (10 * a + (b - 48))
theorem digV_app : ∀ (l m : List Int) (a : Int), digV (l ++ m) a = digV m (digV l a)
  | [], _, _ => rfl
  | b :: l, m, a => by rw [List.cons_append, digV, digV, digV_app l m]
theorem wrap48 {d : Int} (h0 : 0 ≤ d) (h1 : d ≤ 9) : IntKind.wrap .u8 (IntKind.wrap .i64 (48 + d)) = 48 + d := by
  rw [wrapL _ (by omega) (by omega)]
  show (48 + d) % 256 = 48 + d
  omega
theorem num_bytes : ∀ (m : Nat) (n : Int), n.toNat ≤ m → l01Num n = true → (bytesOf (numText n)).all dig = true ∧ digV (bytesOf (numText n)) 0 = n ∧ 1 ≤ (numText n).size
  | m, n, hm, hn => by
    have hr := (l01_iff n).1 hn
    by_cases h2 : n < 10
    · rw [num_lo hn h2, wrap48 hr.1 (by omega), bytesOf_byteB (by omega) (by omega)]
      refine ⟨by simp only [List.all_cons, List.all_nil, Bool.and_true]; rw [dig_iff]; omega, by simp only [digV]; omega, by rw [byteB_size]; omega⟩
    · have hd := numDec hn h2
      match m, hm with
      | 0, hm => omega
      | m + 1, hm =>
      have hq : IntKind.wrap .i64 (Int.tdiv n 10) = n / 10 := tdiv_small hr.1 hr.2
      obtain ⟨h3, h4, h5⟩ := num_bytes m (IntKind.wrap .i64 (Int.tdiv n 10)) (by omega) (by rw [hq]; exact l01_of (by omega) (by omega))
      have ht : Int.tmod n 10 = n % 10 := Int.tmod_eq_emod_of_nonneg hr.1
      rw [num_hi hn h2, ht, wrap48 (by omega) (by omega), bytesOf_app, bytesOf_byteB (by omega) (by omega), List.all_append, h3, digV_app, h4, hq]
      refine ⟨by simp only [List.all_cons, List.all_nil, Bool.and_true, Bool.true_and]; rw [dig_iff]; omega, by simp only [digV]; omega, by rw [ByteArray.size_append, byteB_size]; omega⟩
noncomputable def textNum (w : ByteArray) : Int × Bool :=
  if 1 ≤ w.size ∧ w.size ≤ 13 ∧ (bytesOf w).all dig = true ∧ numText (digV (bytesOf w) 0) = w then (digV (bytesOf w) 0, true) else (0, false)
theorem textNum_num {n : Int} (h : l01Num n = true) : textNum (numText n) = (n, true) := by
  obtain ⟨h1, h2, h3⟩ := num_bytes n.toNat n (Nat.le_refl _) h
  unfold textNum
  rw [if_pos ⟨h3, numText_size n, h1, by rw [h2]⟩, h2]
noncomputable def readD (w : ByteArray) (v4 v5 : Int) : Option (Int ⊕ (Int × Bool)) :=
  bif ((bytesOf w).drop v5.toNat).all dig then some (.inl (digV ((bytesOf w).drop v5.toNat) v4)) else some (.inr (0, false))
theorem readD_next {w : ByteArray} {v4 : Int} {k : Nat} (h : k < w.size) : readD w v4 (k : Int) = bif dig (byteAt w (k : Int)) then readD w (10 * v4 + (byteAt w (k : Int) - 48)) ((k + 1 : Nat) : Int) else some (.inr (0, false)) := by
  unfold readD
  simp only [Int.toNat_natCast]
  rw [drop_bytes h, List.all_cons, digV]
  cases dig (byteAt w (k : Int)) <;> rfl
theorem pow13 {k : Nat} (h : k < 13) : (10 : Int) ^ (k + 1) ≤ 10 ^ 13 := by
  have : (10 : Nat) ^ (k + 1) ≤ 10 ^ 13 := Nat.pow_le_pow_right (by decide) (by omega)
  exact_mod_cast this
theorem s_loopNum (w : ByteArray) (hw : w.size ≤ 13) : loopT (fun s => (Bs_TextNum_1 w s).den) ⟨0, 0⟩ = readD w 0 0 := by
  refine loopT_val (fun s : Ss_TextNum_1 => readD w s.v4 s.v5) (fun s => ∃ k : Nat, s.v5 = k ∧ k ≤ w.size ∧ 0 ≤ s.v4 ∧ s.v4 < 10 ^ k) (fun s => w.size - s.v5.toNat) (fun s hs => ?_) ⟨0, 0⟩ ⟨0, rfl, Nat.zero_le _, Int.le_refl _, by decide⟩
  obtain ⟨v4, v5⟩ := s
  obtain ⟨k, hk, hkw, h0, h1⟩ := hs
  simp only at hk h0 h1
  subst hk
  simp only [Bs_TextNum_1, W.D]
  have hlo := byteAt_lo w k
  have hhi := byteAt_hi w k
  by_cases h : k < w.size
  · rw [decide_eq_true (by omega : (k : Int) < (w.size : Int)), cond_true, if_pos (show 0 ≤ (k : Int) ∧ (k : Int) < (w.size : Int) by omega)]
    rw [readD_next h]
    unfold dig
    by_cases g1 : byteAt w k < 48
    · left
      simp only [decide_eq_true g1, cond_true, W.D]
      exact ⟨_, rfl, rfl⟩
    · simp only [decide_eq_false g1, cond_false, if_pos (show 0 ≤ (k : Int) ∧ (k : Int) < (w.size : Int) by omega), W.D]
      by_cases g2 : byteAt w k > 57
      · left
        simp only [decide_eq_true g2, cond_true, Bool.not_true, cond_false]
        exact ⟨_, rfl, rfl⟩
      · right
        simp only [decide_eq_false g2, cond_false, Bool.not_false, cond_true]
        have hp := pow13 (show k < 13 by omega)
        have hp2 : (10 : Int) ^ (k + 1) = 10 ^ k * 10 := Int.pow_succ 10 k
        have e1 : IntKind.wrap .u8 (byteAt w k - 48) = byteAt w k - 48 := by show (byteAt w k - 48) % 256 = _; omega
        rw [e1, wrapL (byteAt w k - 48) (by omega) (by omega), wrapL (v4 * 10) (by omega) (by omega), wrapL _ (by omega) (by omega), wrapL _ (by omega) (by omega)]
        refine ⟨_, rfl, ⟨k + 1, by simp, by omega, by simp only; omega, by simp only; omega⟩, by simp only; omega, ?_⟩
        simp only [Int.natCast_add, Int.natCast_one, Int.mul_comm v4 10]
  · left
    have : k = w.size := by omega
    subst this
    rw [decide_eq_false (by omega), cond_false]
    refine ⟨_, rfl, ?_⟩
    unfold readD
    rw [Int.toNat_natCast, List.drop_eq_nil_of_le (by rw [bytesOf_length]; exact Nat.le_refl _)]
    rfl
theorem s_TextNum_eq (w : ByteArray) : s_TextNum w = some (textNum w) := by
  simp only [s_TextNum, ws_TextNum, W.D]
  by_cases h1 : (w.size : Int) < 1
  · rw [decide_eq_true h1]
    simp only [cond_true]
    rw [textNum, if_neg (by omega)]
  by_cases h2 : (w.size : Int) > 13
  · rw [decide_eq_false h1, decide_eq_true h2]
    simp only [cond_true, cond_false]
    rw [textNum, if_neg (by omega)]
  rw [decide_eq_false h1, decide_eq_false h2]
  simp only [cond_false]
  rw [s_loopNum w (by omega), readD]
  simp only [Int.toNat_zero, List.drop_zero]
  unfold textNum
  cases hd : (bytesOf w).all dig with
  | false => simp
  | true =>
    simp only [cond_true, bndS_inl, W.D, s_l01Num_eq, s_NumText_eq]
    generalize digV (bytesOf w) 0 = v
    cases hv : l01Num v with
    | false =>
      have : numText v ≠ w := fun e => by have := congrArg ByteArray.size e; rw [num_no hv] at this; have h0 : (⟨#[]⟩ : ByteArray).size = 0 := rfl; omega
      simp [this]
    | true =>
      by_cases he : numText v = w
      · rw [he, if_pos ⟨by omega, by omega, trivial, rfl⟩]
        simp
      · have : ((numText v).toList == w.toList) = false := beq_eq_false_iff_ne.2 fun e => he (ba_ext e)
        simp [he, this]
theorem i_loopNum (w : ByteArray) (hw : w.size ≤ 13) : loopT (fun s => (Bi_TextNum_1 w s).den) ⟨0, 0⟩ = readD w 0 0 := by
  refine loopT_val (fun s : Si_TextNum_1 => readD w s.v4 s.v5) (fun s => ∃ k : Nat, s.v5 = k ∧ k ≤ w.size ∧ 0 ≤ s.v4 ∧ s.v4 < 10 ^ k) (fun s => w.size - s.v5.toNat) (fun s hs => ?_) ⟨0, 0⟩ ⟨0, rfl, Nat.zero_le _, Int.le_refl _, by decide⟩
  obtain ⟨v4, v5⟩ := s
  obtain ⟨k, hk, hkw, h0, h1⟩ := hs
  simp only at hk h0 h1
  subst hk
  simp only [Bi_TextNum_1, W.D]
  have hlo := byteAt_lo w k
  have hhi := byteAt_hi w k
  by_cases h : k < w.size
  · rw [decide_eq_true (by omega : (k : Int) < (w.size : Int)), cond_true, if_pos (show 0 ≤ (k : Int) ∧ (k : Int) < (w.size : Int) by omega)]
    rw [readD_next h]
    unfold dig
    by_cases g1 : byteAt w k < 48
    · left
      simp only [decide_eq_true g1, cond_true, W.D]
      exact ⟨_, rfl, rfl⟩
    · simp only [decide_eq_false g1, cond_false, if_pos (show 0 ≤ (k : Int) ∧ (k : Int) < (w.size : Int) by omega), W.D]
      by_cases g2 : byteAt w k > 57
      · left
        simp only [decide_eq_true g2, cond_true, Bool.not_true, cond_false]
        exact ⟨_, rfl, rfl⟩
      · right
        simp only [decide_eq_false g2, cond_false, Bool.not_false, cond_true]
        have hp := pow13 (show k < 13 by omega)
        have hp2 : (10 : Int) ^ (k + 1) = 10 ^ k * 10 := Int.pow_succ 10 k
        have e1 : IntKind.wrap .u8 (byteAt w k - 48) = byteAt w k - 48 := by show (byteAt w k - 48) % 256 = _; omega
        rw [e1, wrapL (byteAt w k - 48) (by omega) (by omega), wrapL (10 * v4) (by omega) (by omega), wrapL _ (by omega) (by omega), wrapL _ (by omega) (by omega)]
        refine ⟨_, rfl, ⟨k + 1, by simp, by omega, by simp only; omega, by simp only; omega⟩, by simp only; omega, ?_⟩
        simp only [Int.natCast_add, Int.natCast_one]
  · left
    have : k = w.size := by omega
    subst this
    rw [decide_eq_false (by omega), cond_false]
    refine ⟨_, rfl, ?_⟩
    unfold readD
    rw [Int.toNat_natCast, List.drop_eq_nil_of_le (by rw [bytesOf_length]; exact Nat.le_refl _)]
    rfl
theorem i_TextNum_eq (w : ByteArray) : i_TextNum w = some (textNum w) := by
  simp only [i_TextNum, wi_TextNum, W.D, i_within_eq]
  by_cases h1 : (w.size : Int) < 1
  · rw [decide_eq_false (by omega : ¬ (w.size : Int) ≥ 1)]
    simp only [cond_false, Bool.not_false, cond_true]
    rw [textNum, if_neg (by omega)]
  by_cases h2 : (w.size : Int) > 13
  · rw [decide_eq_true (by omega : (w.size : Int) ≥ 1), decide_eq_false (by omega : ¬ (w.size : Int) ≤ 13)]
    simp only [cond_false, Bool.not_false, cond_true]
    rw [textNum, if_neg (by omega)]
  rw [decide_eq_true (by omega : (w.size : Int) ≥ 1), decide_eq_true (by omega : (w.size : Int) ≤ 13)]
  simp only [cond_true, Bool.not_true, cond_false]
  rw [i_loopNum w (by omega), readD]
  simp only [Int.toNat_zero, List.drop_zero]
  unfold textNum
  cases hd : (bytesOf w).all dig with
  | false => simp
  | true =>
    simp only [cond_true, bndS_inl, W.D, i_NumText_eq]
    generalize digV (bytesOf w) 0 = v
    by_cases he : numText v = w
    · rw [he, if_pos ⟨by omega, by omega, trivial, rfl⟩]
      simp
    · have : ((numText v).toList == w.toList) = false := beq_eq_false_iff_ne.2 fun e => he (ba_ext e)
      simp [he, this]
end Go.Proofs.YtagoajkiccgmjaaDoor
namespace Go.Proofs.YtagoajkiccgmjaaDoor
open Go.Mv Go.RowKit

/-! ### Quoted texts -/
def digS (d : Int) : Int := bif decide (d < 10) then IntKind.wrap .u8 (IntKind.wrap .i64 (48 + d)) else IntKind.wrap .u8 (IntKind.wrap .i64 ((IntKind.wrap .i64 (65 + d)) - 10))
theorem s_l01Digit_eq (d : Int) : s_l01Digit d = some (digS d) := by simp only [s_l01Digit, ws_l01Digit, W.D, digS]
def plainB (b : Int) : Bool := bif decide (b ≥ 33) then bif decide (b ≤ 126) then bif (b != 34) then (b != 37) else false else false else false
def figsB : ByteArray := ⟨#[48, 49, 50, 51, 52, 53, 54, 55, 56, 57, 65, 66, 67, 68, 69, 70]⟩
def loI (b : Int) : Int := IntKind.wrap .u8 (((BitVec.ofInt 8 b &&& BitVec.ofInt 8 15).toNat : Nat) : Int)
theorem fig_all : ∀ n : Fin 256, (byteAt figsB (Int.fdiv ((n.1 : Nat) : Int) 16) == digS (((n.1 : Nat) : Int) / 16) && byteAt figsB (loI ((n.1 : Nat) : Int)) == digS (((n.1 : Nat) : Int) % 16) &&
    decide (0 ≤ Int.fdiv ((n.1 : Nat) : Int) 16 ∧ Int.fdiv ((n.1 : Nat) : Int) 16 < 16) && decide (0 ≤ loI ((n.1 : Nat) : Int) ∧ loI ((n.1 : Nat) : Int) < 16)) = true := by decide +kernel
theorem fig_at {b : Int} (h0 : 0 ≤ b) (h1 : b < 256) : byteAt figsB (Int.fdiv b 16) = digS (b / 16) ∧ byteAt figsB (loI b) = digS (b % 16) ∧ (0 ≤ Int.fdiv b 16 ∧ Int.fdiv b 16 < 16) ∧ (0 ≤ loI b ∧ loI b < 16) := by
  have h := fig_all ⟨b.toNat, by omega⟩
  rw [show ((b.toNat : Nat) : Int) = b by omega] at h
  simp only [Bool.and_eq_true, beq_iff_eq, decide_eq_true_eq] at h
  exact ⟨h.1.1.1, h.1.1.2, h.1.2, h.2⟩
theorem dig_all : ∀ n : Fin 16, (decide (48 ≤ digS ((n.1 : Nat) : Int) ∧ digS ((n.1 : Nat) : Int) ≤ 70) && byteAt figsB ((n.1 : Nat) : Int) == digS ((n.1 : Nat) : Int)) = true := by decide +kernel
theorem dig_inj_all : ∀ m n : Fin 16, digS ((m.1 : Nat) : Int) = digS ((n.1 : Nat) : Int) → m = n := by decide +kernel
theorem dig_at {h : Int} (h0 : 0 ≤ h) (h1 : h < 16) : (48 ≤ digS h ∧ digS h ≤ 70) ∧ byteAt figsB h = digS h := by
  have g := dig_all ⟨h.toNat, by omega⟩
  rw [show ((h.toNat : Nat) : Int) = h by omega] at g
  simp only [Bool.and_eq_true, beq_iff_eq, decide_eq_true_eq] at g
  exact g
theorem dig_inj {h g : Int} (h0 : 0 ≤ h) (h1 : h < 16) (g0 : 0 ≤ g) (g1 : g < 16) (e : digS h = digS g) : h = g := by
  have := dig_inj_all ⟨h.toNat, by omega⟩ ⟨g.toNat, by omega⟩
  rw [show ((h.toNat : Nat) : Int) = h by omega, show ((g.toNat : Nat) : Int) = g by omega] at this
  have := congrArg Fin.val (this e)
  simp only at this
  omega
noncomputable def qB (b : Int) : List Int := bif plainB b then [b] else [37, digS (b / 16), digS (b % 16)]
noncomputable def qL (l : List Int) : List Int := l.flatMap qB
theorem qL_cons (b : Int) (l : List Int) : qL (b :: l) = qB b ++ qL l := by simp [qL]
theorem qB_len (b : Int) : 1 ≤ (qB b).length ∧ (qB b).length ≤ 3 := by unfold qB; cases plainB b <;> simp
theorem qL_len : ∀ l : List Int, (qL l).length ≤ 3 * l.length
  | [] => by simp [qL]
  | b :: l => by have := qL_len l; have := qB_len b; rw [qL_cons, List.length_append, List.length_cons]; omega
theorem qB_in {b : Int} (h0 : 0 ≤ b) (h1 : b < 256) : ∀ n ∈ qB b, 0 ≤ n ∧ n < 256 ∧ n ≠ 32 := by
  have a1 := (dig_at (h := b / 16) (by omega) (by omega)).1
  have a2 := (dig_at (h := b % 16) (by omega) (by omega)).1
  unfold qB
  cases hp : plainB b with
  | true =>
    intro n hn
    simp only [cond_true, List.mem_singleton] at hn
    subst hn
    refine ⟨h0, h1, ?_⟩
    rintro rfl
    exact absurd hp (by decide)
  | false =>
    intro n hn
    simp only [cond_false, List.mem_cons, List.not_mem_nil, or_false] at hn
    rcases hn with rfl | rfl | rfl <;> omega
def BytesL (l : List Int) : Prop := ∀ n ∈ l, 0 ≤ n ∧ n < 256
theorem bytesOf_in (s : ByteArray) : BytesL (bytesOf s) := fun n hn => by
  rw [bytesOf_eq] at hn
  obtain ⟨b, _, rfl⟩ := List.mem_map.1 hn
  have := b.toNat_lt
  omega
theorem qL_in : ∀ {l : List Int}, BytesL l → ∀ n ∈ qL l, 0 ≤ n ∧ n < 256 ∧ n ≠ 32
  | [], _, n, hn => by simp [qL] at hn
  | b :: l, h, n, hn => by
    rw [qL_cons, List.mem_append] at hn
    have hb := h b (by simp)
    rcases hn with hn | hn
    · exact qB_in hb.1 hb.2 n hn
    · exact qL_in (fun m hm => h m (by simp [hm])) n hn
theorem strOf_bytes {l : List Int} (h : BytesL l) : bytesOf (strOfNums l) = l := by
  rw [bytesOf_eq]
  unfold strOfNums
  simp only [List.map_map]
  conv => rhs; rw [← List.map_id l]
  refine List.map_congr_left fun n hn => ?_
  have := h n hn
  simp only [Function.comp, id]
  simp
  omega
theorem bytesOf_inj {a b : ByteArray} (h : bytesOf a = bytesOf b) : a = b := by
  have ha := strOfNums_bytes a
  have hb := strOfNums_bytes b
  rw [← bytesOf_eq] at ha hb
  rw [← ha, ← hb, h]
theorem strOf_bytesOf (a : ByteArray) : strOfNums (bytesOf a) = a := by rw [bytesOf_eq]; exact strOfNums_bytes a
theorem strOf_size {l : List Int} (h : BytesL l) : (strOfNums l).size = l.length := by rw [← bytesOf_length, strOf_bytes h]
noncomputable def quote (s : ByteArray) : ByteArray := if s.size ≤ 4096 then strOfNums (34 :: qL (bytesOf s) ++ [34]) else ⟨#[]⟩
theorem quote_in (s : ByteArray) : ∀ n ∈ (34 :: qL (bytesOf s) ++ [34] : List Int), 0 ≤ n ∧ n < 256 ∧ n ≠ 32 := fun n hn => by
  simp only [List.cons_append, List.mem_cons, List.mem_append, List.not_mem_nil, or_false] at hn
  rcases hn with rfl | hn | rfl
  · decide
  · exact qL_in (bytesOf_in s) n hn
  · decide
theorem quote_bytes {s : ByteArray} (h : s.size ≤ 4096) : bytesOf (quote s) = 34 :: qL (bytesOf s) ++ [34] := by
  rw [quote, if_pos h, strOf_bytes fun n hn => ⟨(quote_in s n hn).1, (quote_in s n hn).2.1⟩]
theorem quote_size (s : ByteArray) : (quote s).size ≤ 12290 := by
  by_cases h : s.size ≤ 4096
  · rw [← bytesOf_length, quote_bytes h]
    have := qL_len (bytesOf s)
    rw [bytesOf_length] at this
    simp
    omega
  · rw [quote, if_neg h]; exact Nat.zero_le _
theorem s_loopQ (w : ByteArray) (hw : w.size ≤ 4096) : loopT (fun s => (Bs_Quote_1 w s).den) ⟨[34], 0⟩ = some (34 :: qL (bytesOf w)) := by
  refine (loopT_val (fun s : Ss_Quote_1 => some (s.v3 ++ qL ((bytesOf w).drop s.v4.toNat))) (fun s => ∃ k : Nat, s.v4 = k ∧ k ≤ w.size ∧ s.v3.length ≤ 1 + 3 * k) (fun s => w.size - s.v4.toNat) (fun s hs => ?_) ⟨[34], 0⟩ ⟨0, rfl, Nat.zero_le _, by simp⟩).trans (by simp)
  obtain ⟨v3, v4⟩ := s
  obtain ⟨k, hk, hkw, hl⟩ := hs
  simp only at hk hl
  subst hk
  simp only [Bs_Quote_1, W.D]
  have hlo := byteAt_lo w k
  have hhi := byteAt_hi w k
  by_cases h : k < w.size
  · right
    rw [decide_eq_true (by omega : (k : Int) < (w.size : Int)), cond_true, if_pos (show 0 ≤ (k : Int) ∧ (k : Int) < (w.size : Int) by omega)]
    simp only [Int.toNat_natCast]
    rw [drop_bytes h, qL_cons]
    generalize hb : byteAt w (k : Int) = b at *
    have hq := qB_len b
    have e0 : IntKind.wrap .i64 ((k : Int) + 1) = ((k + 1 : Nat) : Int) := by rw [wrapL _ (by omega) (by omega)]; simp
    simp only [s_l01Digit_eq, e0]
    rw [wrapL b (by omega) (by omega), Int.tdiv_eq_ediv_of_nonneg hlo, Int.tmod_eq_emod_of_nonneg hlo, wrapL (b / 16) (by omega) (by omega)]
    have key : ∀ (p : Bool), p = plainB b → (Mv.bnd (bif p then if (v3.length + [b].length) * 1 ≤ 140737488355328 then some (v3 ++ [b]) else none else if (v3.length + [37, digS (b / 16), digS (b % 16)].length) * 1 ≤ 140737488355328 then some (v3 ++ [37, digS (b / 16), digS (b % 16)]) else none) fun j => some (Sum.inl (⟨j, ((k + 1 : Nat) : Int)⟩ : Ss_Quote_1) : Ss_Quote_1 ⊕ List Int)) = some (.inl ⟨v3 ++ qB b, ((k + 1 : Nat) : Int)⟩) := fun p hp => by
      subst hp
      unfold qB
      cases plainB b with
      | true => simp only [cond_true]; rw [if_pos (by simp; omega)]; rfl
      | false => simp only [cond_false]; rw [if_pos (by simp; omega)]; rfl
    refine ⟨_, key _ ?_, ⟨k + 1, rfl, by omega, by simp only [List.length_append]; omega⟩, by simp only [Int.toNat_natCast]; omega, by simp only [Int.toNat_natCast, List.append_assoc]⟩
    unfold plainB
    rfl
  · left
    have : k = w.size := by omega
    subst this
    rw [decide_eq_false (by omega), cond_false]
    refine ⟨_, rfl, ?_⟩
    simp only [Int.toNat_natCast]
    rw [List.drop_eq_nil_of_le (by rw [bytesOf_length]; exact Nat.le_refl _)]
    simp [qL]
theorem quote_len {w : ByteArray} (hw : w.size ≤ 4096) : (34 :: qL (bytesOf w)).length ≤ 20000 := by
  have := qL_len (bytesOf w)
  rw [bytesOf_length] at this
  simp
  omega
theorem s_Quote_eq (w : ByteArray) : s_Quote w = some (quote w) := by
  simp only [s_Quote, ws_Quote, W.D]
  by_cases h : (w.size : Int) > 4096
  · rw [decide_eq_true h, cond_true, quote, if_neg (by omega)]
  · rw [decide_eq_false h, cond_false, s_loopQ w (by omega), quote, if_pos (by omega)]
    have hl := quote_len (w := w) (by omega)
    simp only [W.D]
    rw [if_pos (by simp at hl ⊢; omega), if_pos fun n hn => ⟨(quote_in w n hn).1, (quote_in w n hn).2.1⟩]
theorem i_loopQ (w : ByteArray) (hw : w.size ≤ 4096) : loopT (fun s => (Bi_Quote_1 w s).den) ⟨[34], 0⟩ = some (34 :: qL (bytesOf w)) := by
  refine (loopT_val (fun s : Si_Quote_1 => some (s.v3 ++ qL ((bytesOf w).drop s.v4.toNat))) (fun s => ∃ k : Nat, s.v4 = k ∧ k ≤ w.size ∧ s.v3.length ≤ 1 + 3 * k) (fun s => w.size - s.v4.toNat) (fun s hs => ?_) ⟨[34], 0⟩ ⟨0, rfl, Nat.zero_le _, by simp⟩).trans (by simp)
  obtain ⟨v3, v4⟩ := s
  obtain ⟨k, hk, hkw, hl⟩ := hs
  simp only at hk hl
  subst hk
  simp only [Bi_Quote_1, W.D, i_within_eq]
  have hlo := byteAt_lo w k
  have hhi := byteAt_hi w k
  by_cases h : k < w.size
  · right
    rw [decide_eq_true (by omega : (k : Int) < (w.size : Int)), cond_true, if_pos (show 0 ≤ (k : Int) ∧ (k : Int) < (w.size : Int) by omega)]
    simp only [Int.toNat_natCast]
    rw [drop_bytes h, qL_cons]
    generalize hb : byteAt w (k : Int) = b at *
    have hq := qB_len b
    have hf := fig_at hlo hhi
    have e0 : IntKind.wrap .i64 ((k : Int) + 1) = ((k + 1 : Nat) : Int) := by rw [wrapL _ (by omega) (by omega)]; simp
    rw [wrapL b (by omega) (by omega), e0]
    rw [show (⟨#[48, 49, 50, 51, 52, 53, 54, 55, 56, 57, 65, 66, 67, 68, 69, 70]⟩ : ByteArray) = figsB from rfl, show IntKind.wrap .u8 (((BitVec.ofInt 8 b &&& BitVec.ofInt 8 15).toNat : Nat) : Int) = loI b from rfl, hf.1, hf.2.1]
    rw [if_pos (show 0 ≤ Int.fdiv b 16 ∧ Int.fdiv b 16 < (figsB.size : Int) from hf.2.2.1), if_pos (show 0 ≤ loI b ∧ loI b < (figsB.size : Int) from hf.2.2.2)]
    have key : ∀ (p : Bool), p = plainB b → (Mv.bnd (bif p then if (v3.length + [b].length) * 1 ≤ 140737488355328 then some (v3 ++ [b]) else none else if (v3.length + [37, digS (b / 16), digS (b % 16)].length) * 1 ≤ 140737488355328 then some (v3 ++ [37, digS (b / 16), digS (b % 16)]) else none) fun j => some (Sum.inl (⟨j, ((k + 1 : Nat) : Int)⟩ : Si_Quote_1) : Si_Quote_1 ⊕ List Int)) = some (.inl ⟨v3 ++ qB b, ((k + 1 : Nat) : Int)⟩) := fun p hp => by
      subst hp
      unfold qB
      cases plainB b with
      | true => simp only [cond_true]; rw [if_pos (by simp; omega)]; rfl
      | false => simp only [cond_false]; rw [if_pos (by simp; omega)]; rfl
    refine ⟨_, key _ ?_, ⟨k + 1, rfl, by omega, by simp only [List.length_append]; omega⟩, by simp only [Int.toNat_natCast]; omega, by simp only [Int.toNat_natCast, List.append_assoc]⟩
    unfold plainB
    cases decide (b ≥ 33) <;> rfl
  · left
    have : k = w.size := by omega
    subst this
    rw [decide_eq_false (by omega), cond_false]
    refine ⟨_, rfl, ?_⟩
    simp only [Int.toNat_natCast]
    rw [List.drop_eq_nil_of_le (by rw [bytesOf_length]; exact Nat.le_refl _)]
    simp [qL]
theorem i_Quote_eq (w : ByteArray) : i_Quote w = some (quote w) := by
  simp only [i_Quote, wi_Quote, W.D]
  by_cases h : (w.size : Int) > 4096
  · rw [decide_eq_true h, cond_true, quote, if_neg (by omega)]
  · rw [decide_eq_false h, cond_false, i_loopQ w (by omega), quote, if_pos (by omega)]
    have hl := quote_len (w := w) (by omega)
    simp only [W.D]
    rw [if_pos (by simp at hl ⊢; omega), if_pos fun n hn => ⟨(quote_in w n hn).1, (quote_in w n hn).2.1⟩]
end Go.Proofs.YtagoajkiccgmjaaDoor
namespace Go.Proofs.YtagoajkiccgmjaaDoor
open Go.Mv Go.RowKit

/-! ### Quoted texts read -/
theorem s_l01Half_ex (b : Int) : ∃ r, s_l01Half b = some r ∧ 0 ≤ r ∧ r ≤ 16 ∧ (∀ d, 0 ≤ d → d < r → digS d ≠ b) ∧ (r < 16 → digS r = b) := by
  obtain ⟨r, h, hq⟩ := loopT_ex (f := fun s => (Bs_l01Half_1 b s).den) (fun r : Int => 0 ≤ r ∧ r ≤ 16 ∧ (∀ d, 0 ≤ d → d < r → digS d ≠ b) ∧ (r < 16 → digS r = b)) (fun s : Int => 0 ≤ s ∧ s ≤ 16 ∧ ∀ d, 0 ≤ d → d < s → digS d ≠ b) (fun s => (16 - s).toNat) (fun s hs => by
    obtain ⟨h0, h1, h2⟩ := hs
    simp only [Bs_l01Half_1, W.D, s_l01Digit_eq]
    by_cases h : s < 16
    · rw [decide_eq_true h]
      simp only [cond_true]
      by_cases g : digS s = b
      · left
        rw [show (digS s != b) = false by simp [g]]
        simp only [cond_false]
        exact ⟨_, rfl, h0, h1, h2, fun _ => g⟩
      · right
        rw [show (digS s != b) = true by simp [g]]
        simp only [cond_true]
        rw [wrapL _ (by omega) (by omega)]
        refine ⟨_, rfl, ⟨by omega, by omega, fun d g0 g1 => ?_⟩, by omega⟩
        by_cases e : d = s
        · subst e; exact g
        · exact h2 d g0 (by omega)
    · left
      rw [decide_eq_false h]
      simp only [cond_false]
      exact ⟨_, rfl, h0, h1, h2, fun h' => absurd h' h⟩) 0 ⟨Int.le_refl _, by decide, fun d g0 g1 => by omega⟩
  refine ⟨r, ?_, hq⟩
  simp only [s_l01Half, ws_l01Half, W.D]
  rw [h]
  simp only [W.D]
theorem s_l01Half_dig {h : Int} (h0 : 0 ≤ h) (h1 : h < 16) : s_l01Half (digS h) = some h := by
  obtain ⟨r, e, g0, g1, g2, g3⟩ := s_l01Half_ex (digS h)
  rw [e]
  by_cases hr : h < r
  · exact absurd rfl (g2 h h0 hr)
  · rw [dig_inj g0 (by omega) h0 h1 (g3 (by omega))]
theorem i_figure_ex (b : Int) : ∃ r, i_figure b = some r ∧ -1 ≤ r ∧ r < 16 ∧ (0 ≤ r → digS r = b) ∧ (r < 0 → ∀ d, 0 ≤ d → d < 16 → digS d ≠ b) := by
  have := loopT_ex (f := fun s => (Bi_figure_1 b s).den) (fun r : Unit ⊕ Int => match r with | .inl _ => (∀ d, 0 ≤ d → d < 16 → digS d ≠ b) | .inr r => 0 ≤ r ∧ r < 16 ∧ digS r = b) (fun s : Int => 0 ≤ s ∧ s ≤ 16 ∧ ∀ d, 0 ≤ d → d < s → digS d ≠ b) (fun s => (16 - s).toNat) (fun s hs => by
    obtain ⟨h0, h1, h2⟩ := hs
    simp only [Bi_figure_1, W.D]
    by_cases h : s < 16
    · rw [decide_eq_true h]
      simp only [cond_true]
      have hf := (dig_at h0 h).2
      rw [show (⟨#[48, 49, 50, 51, 52, 53, 54, 55, 56, 57, 65, 66, 67, 68, 69, 70]⟩ : ByteArray) = figsB from rfl, if_pos (show 0 ≤ s ∧ s < (figsB.size : Int) from ⟨h0, h⟩), hf]
      by_cases g : digS s = b
      · left
        rw [show (digS s == b) = true by simp [g]]
        simp only [cond_true]
        exact ⟨_, rfl, h0, h, g⟩
      · right
        rw [show (digS s == b) = false by simp [g]]
        simp only [cond_false]
        rw [wrapL _ (by omega) (by omega)]
        refine ⟨_, rfl, ⟨by omega, by omega, fun d g0 g1 => ?_⟩, by omega⟩
        by_cases e : d = s
        · subst e; exact g
        · exact h2 d g0 (by omega)
    · left
      rw [decide_eq_false h]
      simp only [cond_false]
      exact ⟨_, rfl, fun d g0 g1 => h2 d g0 (by omega)⟩) 0 ⟨Int.le_refl _, by decide, fun d g0 g1 => by omega⟩
  obtain ⟨r, h, hq⟩ := this
  simp only [i_figure, wi_figure, W.D]
  rw [h]
  cases r with
  | inl u => exact ⟨-1, rfl, by omega, by omega, by omega, fun _ => hq⟩
  | inr r => exact ⟨r, rfl, by have := hq.1; omega, hq.2.1, fun _ => hq.2.2, fun h => by have := hq.1; omega⟩
theorem i_figure_dig {h : Int} (h0 : 0 ≤ h) (h1 : h < 16) : i_figure (digS h) = some h := by
  obtain ⟨r, e, g0, g1, g2, g3⟩ := i_figure_ex (digS h)
  rw [e]
  by_cases hr : r < 0
  · exact absurd rfl (g3 hr h h0 h1)
  · rw [dig_inj (by omega) g1 h0 h1 (g2 (by omega))]
theorem bytesL_snoc {l : List Int} {b : Int} (h : BytesL l) (h0 : 0 ≤ b) (h1 : b < 256) : BytesL (l ++ [b]) := fun n hn => by
  rw [List.mem_append, List.mem_singleton] at hn
  rcases hn with hn | rfl
  · exact h n hn
  · exact ⟨h0, h1⟩
theorem u8_lo (x : Int) : 0 ≤ IntKind.wrap .u8 x := by rw [show IntKind.wrap .u8 x = x % 256 from rfl]; omega
theorem u8_hi (x : Int) : IntKind.wrap .u8 x < 256 := by rw [show IntKind.wrap .u8 x = x % 256 from rfl]; omega
theorem s_loopU (w : ByteArray) (hw : w.size ≤ 1048576) : ∃ l, loopT (fun s => (Bs_Unquote_1 w s).den) ⟨[], 1⟩ = some l ∧ BytesL l := by
  refine loopT_ex (f := fun s => (Bs_Unquote_1 w s).den) BytesL (fun s : Ss_Unquote_1 => BytesL s.v4 ∧ 1 ≤ s.v5 ∧ s.v5 ≤ 1048580 ∧ s.v4.length ≤ s.v5.toNat) (fun s => (1048580 - s.v5).toNat) (fun s hs => ?_) ⟨[], 1⟩ ⟨(fun n hn => by cases hn), by simp, by simp, by simp⟩
  obtain ⟨v4, v5⟩ := s
  obtain ⟨hb, h1, h2, h3⟩ := hs
  simp only at hb h1 h2 h3
  simp only [Bs_Unquote_1, W.D]
  rw [wrapL ((w.size : Int) - 1) (by omega) (by omega)]
  by_cases h : v5 < (w.size : Int) - 1
  · right
    rw [decide_eq_true h, cond_true, if_pos (show 0 ≤ v5 ∧ v5 < (w.size : Int) by omega)]
    rw [wrapL (v5 + 2) (by omega) (by omega), wrapL (v5 + 1) (by omega) (by omega)]
    cases hc : (byteAt w v5 == 37) with
    | true =>
      simp only [cond_true, W.D]
      by_cases g : v5 + 2 < (w.size : Int)
      · rw [decide_eq_true g]
        simp only [cond_true]
        obtain ⟨a, ea, _⟩ := s_l01Half_ex (byteAt w (v5 + 1))
        obtain ⟨c, ec, _⟩ := s_l01Half_ex (byteAt w (v5 + 2))
        rw [if_pos (show 0 ≤ v5 + 1 ∧ v5 + 1 < (w.size : Int) by omega), ea, bnd_some, if_pos (show 0 ≤ v5 + 2 ∧ v5 + 2 < (w.size : Int) by omega), ec]
        simp only [W.D]
        rw [if_pos (by simp only [List.length_cons, List.length_nil]; omega)]
        simp only [W.D]
        rw [wrapL (v5 + 2 + 1) (by omega) (by omega)]
        exact ⟨_, rfl, ⟨bytesL_snoc hb (u8_lo _) (u8_hi _), by simp only; omega, by simp only; omega, by simp only [List.length_append, List.length_cons, List.length_nil]; omega⟩, by simp only; omega⟩
      · rw [decide_eq_false g]
        simp only [cond_false]
        rw [if_pos (show 0 ≤ v5 ∧ v5 < (w.size : Int) by omega), if_pos (by simp only [List.length_cons, List.length_nil]; omega)]
        simp only [W.D]
        rw [wrapL (v5 + 1) (by omega) (by omega)]
        exact ⟨_, rfl, ⟨bytesL_snoc hb (byteAt_lo _ _) (byteAt_hi _ _), by simp only; omega, by simp only; omega, by simp only [List.length_append, List.length_cons, List.length_nil]; omega⟩, by simp only; omega⟩
    | false =>
      simp only [cond_false, W.D]
      rw [if_pos (show 0 ≤ v5 ∧ v5 < (w.size : Int) by omega), if_pos (by simp only [List.length_cons, List.length_nil]; omega)]
      simp only [W.D]
      rw [wrapL (v5 + 1) (by omega) (by omega)]
      exact ⟨_, rfl, ⟨bytesL_snoc hb (byteAt_lo _ _) (byteAt_hi _ _), by simp only; omega, by simp only; omega, by simp only [List.length_append, List.length_cons, List.length_nil]; omega⟩, by simp only; omega⟩
  · left
    rw [decide_eq_false h, cond_false]
    exact ⟨_, rfl, hb⟩
theorem s_Unquote_ex (w : ByteArray) (hw : w.size ≤ 1048576) : ∃ r, s_Unquote w = some r := by
  simp only [s_Unquote, ws_Unquote, W.D]
  obtain ⟨l, h, hl⟩ := s_loopU w hw
  rw [h]
  simp only [W.D, s_Quote_eq]
  have hl' : ∀ n ∈ l, 0 ≤ n ∧ n < 256 := hl
  rw [if_pos hl', if_pos hl']
  cases (bif decide ((w.size : Int) < 2) then true else decide ((w.size : Int) > 12290)) <;> cases (!((quote (strOfNums l)).toList == w.toList)) <;> exact ⟨_, rfl⟩
theorem i_loopU (w : ByteArray) (hw : w.size ≤ 1048576) : ∃ l, loopT (fun s => (Bi_Unquote_1 w s).den) ⟨[], 1⟩ = some l ∧ (∀ ns, l = .inl ns → BytesL ns) := by
  refine loopT_ex (f := fun s => (Bi_Unquote_1 w s).den) (fun l : List Int ⊕ (ByteArray × Bool) => ∀ ns, l = .inl ns → BytesL ns) (fun s : Si_Unquote_1 => BytesL s.v4 ∧ 1 ≤ s.v5 ∧ s.v5 ≤ 1048580 ∧ s.v4.length ≤ s.v5.toNat) (fun s => (1048580 - s.v5).toNat) (fun s hs => ?_) ⟨[], 1⟩ ⟨(fun n hn => by cases hn), by simp, by simp, by simp⟩
  obtain ⟨v4, v5⟩ := s
  obtain ⟨hb, h1, h2, h3⟩ := hs
  simp only at hb h1 h2 h3
  simp only [Bi_Unquote_1, W.D]
  rw [wrapL ((w.size : Int) - 1) (by omega) (by omega)]
  by_cases h : v5 < (w.size : Int) - 1
  · rw [decide_eq_true h, cond_true, if_pos (show 0 ≤ v5 ∧ v5 < (w.size : Int) by omega)]
    rw [wrapL (v5 + 2) (by omega) (by omega), wrapL (v5 + 1) (by omega) (by omega)]
    cases hc : (byteAt w v5 != 37) with
    | true =>
      right
      simp only [cond_true, W.D]
      rw [if_pos (show 0 ≤ v5 ∧ v5 < (w.size : Int) by omega), if_pos (by simp only [List.length_cons, List.length_nil]; omega)]
      simp only [W.D, bndS_inl]
      rw [wrapL (v5 + 1) (by omega) (by omega)]
      exact ⟨_, rfl, ⟨bytesL_snoc hb (byteAt_lo _ _) (byteAt_hi _ _), by simp only; omega, by simp only; omega, by simp only [List.length_append, List.length_cons, List.length_nil]; omega⟩, by simp only; omega⟩
    | false =>
      simp only [cond_false, W.D]
      by_cases g : v5 + 2 ≥ (w.size : Int) - 1
      · left
        rw [decide_eq_true g]
        simp only [cond_true, bndS_inr]
        exact ⟨_, rfl, fun ns e => nomatch e⟩
      · rw [decide_eq_false g]
        simp only [cond_false]
        obtain ⟨a, ea, _⟩ := i_figure_ex (byteAt w (v5 + 1))
        obtain ⟨c, ec, _⟩ := i_figure_ex (byteAt w (v5 + 2))
        rw [if_pos (show 0 ≤ v5 + 1 ∧ v5 + 1 < (w.size : Int) by omega), ea, bnd_some, if_pos (show 0 ≤ v5 + 2 ∧ v5 + 2 < (w.size : Int) by omega), ec]
        simp only [W.D]
        cases (bif decide (a < 0) then true else decide (c < 0)) with
        | true =>
          left
          simp only [cond_true, bndS_inr]
          exact ⟨_, rfl, fun ns e => nomatch e⟩
        | false =>
          right
          simp only [cond_false]
          rw [if_pos (by simp only [List.length_cons, List.length_nil]; omega)]
          simp only [W.D, bndS_inl]
          rw [wrapL (v5 + 2 + 1) (by omega) (by omega)]
          exact ⟨_, rfl, ⟨bytesL_snoc hb (u8_lo _) (u8_hi _), by simp only; omega, by simp only; omega, by simp only [List.length_append, List.length_cons, List.length_nil]; omega⟩, by simp only; omega⟩
  · left
    rw [decide_eq_false h, cond_false]
    exact ⟨_, rfl, fun ns e => by cases e; exact hb⟩
theorem i_Unquote_ex (w : ByteArray) (hw : w.size ≤ 1048576) : ∃ r, i_Unquote w = some r := by
  simp only [i_Unquote, wi_Unquote, W.D]
  obtain ⟨l, h, hl⟩ := i_loopU w hw
  rw [h]
  cases l with
  | inr r => exact ⟨_, rfl⟩
  | inl ns =>
    have hn := hl ns rfl
    simp only [bndS_inl, W.D, i_Quote_eq]
    have hn' : ∀ n ∈ ns, 0 ≤ n ∧ n < 256 := hn
    rw [if_pos hn', if_pos hn']
    cases (w.toList == (⟨#[]⟩ : ByteArray).toList) <;> cases (!((quote (strOfNums ns)).toList == w.toList)) <;> exact ⟨_, rfl⟩

/-! ### What was quoted is read as it was -/
theorem drop_head {w : ByteArray} {k : Nat} {x : Int} {r : List Int} (h : (bytesOf w).drop k = x :: r) : k < w.size ∧ byteAt w (k : Int) = x ∧ (bytesOf w).drop (k + 1) = r := by
  have hk : k < w.size := by
    rcases Nat.lt_or_ge k w.size with h1 | h1
    · exact h1
    · rw [List.drop_eq_nil_of_le (by rw [bytesOf_length]; exact h1)] at h; cases h
  rw [drop_bytes hk] at h
  injection h with h1 h2
  exact ⟨hk, h1, h2⟩
theorem q_val {b : Int} (h0 : 0 ≤ b) (h1 : b < 256) : IntKind.wrap .u8 (IntKind.wrap .i64 (IntKind.wrap .i64 (16 * (b / 16)) + b % 16)) = b := by
  rw [wrapL (16 * (b / 16)) (by omega) (by omega), wrapL _ (by omega) (by omega)]
  show (16 * (b / 16) + b % 16) % 256 = b
  omega
theorem plain_ne {b : Int} (h : plainB b = true) : b ≠ 37 := by rintro rfl; exact absurd h (by decide)
theorem s_loopUq {s w : ByteArray} (hs : s.size ≤ 4096) (hw : bytesOf w = 34 :: qL (bytesOf s) ++ [34]) : loopT (fun s => (Bs_Unquote_1 w s).den) ⟨[], 1⟩ = some (bytesOf s) := by
  have hsz : w.size = (qL (bytesOf s)).length + 2 := by rw [← bytesOf_length, hw]; simp
  have hql := qL_len (bytesOf s)
  rw [bytesOf_length] at hql
  refine loopT_val (fun _ : Ss_Unquote_1 => some (bytesOf s)) (fun t : Ss_Unquote_1 => ∃ (k : Nat) (rest : List Int), t.v5 = k ∧ t.v4 ++ rest = bytesOf s ∧ (bytesOf w).drop k = qL rest ++ [34]) (fun t => w.size - t.v5.toNat) (fun t ht => ?_) ⟨[], 1⟩ ⟨1, bytesOf s, rfl, rfl, by rw [hw]; simp⟩
  obtain ⟨v4, v5⟩ := t
  obtain ⟨k, rest, hk, hr, hd⟩ := ht
  simp only at hk hr
  subst hk
  simp only [Bs_Unquote_1, W.D]
  rw [wrapL ((w.size : Int) - 1) (by omega) (by omega)]
  have hlen := congrArg List.length hd
  rw [List.length_drop, bytesOf_length, List.length_append, List.length_singleton] at hlen
  have hrl := congrArg List.length hr
  rw [bytesOf_length, List.length_append] at hrl
  cases rest with
  | nil =>
    left
    have hk : k + 1 = w.size := by simp only [qL, List.flatMap_nil, List.length_nil] at hlen; omega
    rw [decide_eq_false (by omega), cond_false]
    exact ⟨_, rfl, by rw [← hr, List.append_nil]⟩
  | cons b rest =>
    right
    have hb : 0 ≤ b ∧ b < 256 := bytesOf_in s b (by rw [← hr]; simp)
    have ha := dig_at (h := b / 16) (by omega) (by omega)
    have hc := dig_at (h := b % 16) (by omega) (by omega)
    rw [qL_cons] at hd hlen
    have hq := qB_len b
    rw [List.length_append] at hlen
    simp only [List.length_cons] at hrl
    rw [decide_eq_true (by omega : (k : Int) < (w.size : Int) - 1), cond_true, if_pos (show 0 ≤ (k : Int) ∧ (k : Int) < (w.size : Int) by omega)]
    unfold qB at hd hlen
    cases hp : plainB b with
    | true =>
      rw [hp] at hd hlen
      simp only [cond_true, List.cons_append, List.nil_append] at hd
      obtain ⟨d1, d2, d3⟩ := drop_head hd
      rw [d2, show (b == 37) = false by simp [plain_ne hp]]
      simp only [cond_false, W.D]
      rw [if_pos (show 0 ≤ (k : Int) ∧ (k : Int) < (w.size : Int) by omega), if_pos (by simp only [List.length_cons, List.length_nil]; omega)]
      simp only [W.D]
      rw [wrapL ((k : Int) + 1) (by omega) (by omega)]
      exact ⟨_, rfl, ⟨k + 1, rest, by simp, by simp only [List.append_assoc, List.singleton_append]; exact hr, d3⟩, by simp only; omega, trivial⟩
    | false =>
      rw [hp] at hd hlen
      simp only [cond_false, List.cons_append, List.nil_append] at hd
      obtain ⟨d1, d2, d3⟩ := drop_head hd
      obtain ⟨f1, f2, f3⟩ := drop_head d3
      obtain ⟨g1, g2, g3⟩ := drop_head f3
      rw [d2, wrapL ((k : Int) + 2) (by omega) (by omega), wrapL ((k : Int) + 1) (by omega) (by omega)]
      simp only [beq_self_eq_true, cond_true]
      rw [decide_eq_true (by omega : (k : Int) + 2 < (w.size : Int))]
      simp only [W.D, cond_true]
      have f2' : byteAt w ((k : Int) + 1) = digS (b / 16) := by rw [← f2]; simp
      have g2' : byteAt w ((k : Int) + 2) = digS (b % 16) := by rw [← g2]; congr 1
      rw [if_pos (show 0 ≤ (k : Int) + 1 ∧ (k : Int) + 1 < (w.size : Int) by omega), f2', s_l01Half_dig (by omega) (by omega), bnd_some, if_pos (show 0 ≤ (k : Int) + 2 ∧ (k : Int) + 2 < (w.size : Int) by omega), g2', s_l01Half_dig (by omega) (by omega)]
      simp only [W.D]
      rw [if_pos (by simp only [List.length_cons, List.length_nil]; omega)]
      simp only [W.D]
      rw [wrapL ((k : Int) + 2 + 1) (by omega) (by omega), Int.tmod_eq_emod_of_nonneg (by omega), Int.tmod_eq_emod_of_nonneg (by omega), Int.emod_eq_of_lt (a := b / 16) (by omega) (by omega), Int.emod_eq_of_lt (a := b % 16) (by omega) (by omega), Int.mul_comm (b / 16) 16, q_val hb.1 hb.2]
      exact ⟨_, rfl, ⟨k + 3, rest, by simp only; omega, by simp only [List.append_assoc, List.singleton_append]; exact hr, g3⟩, by simp only; omega, trivial⟩
theorem quote_ne (s : ByteArray) (hs : s.size ≤ 4096) : 2 ≤ (quote s).size := by rw [← bytesOf_length, quote_bytes hs]; simp
theorem s_Unquote_q {s : ByteArray} (hs : s.size ≤ 4096) : s_Unquote (quote s) = some (s, true) := by
  have h1 := quote_ne s hs
  have h2 := quote_size s
  simp only [s_Unquote, ws_Unquote, W.D]
  rw [decide_eq_false (by omega : ¬ ((quote s).size : Int) < 2), decide_eq_false (by omega : ¬ ((quote s).size : Int) > 12290)]
  simp only [cond_false]
  rw [s_loopUq hs (quote_bytes hs)]
  have hl' : ∀ n ∈ bytesOf s, 0 ≤ n ∧ n < 256 := bytesOf_in s
  simp only [W.D, s_Quote_eq]
  rw [if_pos hl', if_pos hl', strOf_bytesOf]
  simp
theorem i_loopUq {s w : ByteArray} (hs : s.size ≤ 4096) (hw : bytesOf w = 34 :: qL (bytesOf s) ++ [34]) : loopT (fun s => (Bi_Unquote_1 w s).den) ⟨[], 1⟩ = some (.inl (bytesOf s)) := by
  have hsz : w.size = (qL (bytesOf s)).length + 2 := by rw [← bytesOf_length, hw]; simp
  have hql := qL_len (bytesOf s)
  rw [bytesOf_length] at hql
  refine loopT_val (fun _ : Si_Unquote_1 => some (Sum.inl (bytesOf s) : List Int ⊕ (ByteArray × Bool))) (fun t : Si_Unquote_1 => ∃ (k : Nat) (rest : List Int), t.v5 = k ∧ t.v4 ++ rest = bytesOf s ∧ (bytesOf w).drop k = qL rest ++ [34]) (fun t => w.size - t.v5.toNat) (fun t ht => ?_) ⟨[], 1⟩ ⟨1, bytesOf s, rfl, rfl, by rw [hw]; simp⟩
  obtain ⟨v4, v5⟩ := t
  obtain ⟨k, rest, hk, hr, hd⟩ := ht
  simp only at hk hr
  subst hk
  simp only [Bi_Unquote_1, W.D]
  rw [wrapL ((w.size : Int) - 1) (by omega) (by omega)]
  have hlen := congrArg List.length hd
  rw [List.length_drop, bytesOf_length, List.length_append, List.length_singleton] at hlen
  have hrl := congrArg List.length hr
  rw [bytesOf_length, List.length_append] at hrl
  cases rest with
  | nil =>
    left
    have hk : k + 1 = w.size := by simp only [qL, List.flatMap_nil, List.length_nil] at hlen; omega
    rw [decide_eq_false (by omega), cond_false]
    exact ⟨_, rfl, by rw [← hr, List.append_nil]⟩
  | cons b rest =>
    right
    have hb : 0 ≤ b ∧ b < 256 := bytesOf_in s b (by rw [← hr]; simp)
    have ha := dig_at (h := b / 16) (by omega) (by omega)
    have hc := dig_at (h := b % 16) (by omega) (by omega)
    rw [qL_cons] at hd hlen
    have hq := qB_len b
    rw [List.length_append] at hlen
    simp only [List.length_cons] at hrl
    rw [decide_eq_true (by omega : (k : Int) < (w.size : Int) - 1), cond_true, if_pos (show 0 ≤ (k : Int) ∧ (k : Int) < (w.size : Int) by omega)]
    unfold qB at hd hlen
    cases hp : plainB b with
    | true =>
      rw [hp] at hd hlen
      simp only [cond_true, List.cons_append, List.nil_append] at hd
      obtain ⟨d1, d2, d3⟩ := drop_head hd
      rw [d2, show (b != 37) = true by simp [plain_ne hp]]
      simp only [cond_true, W.D]
      rw [if_pos (show 0 ≤ (k : Int) ∧ (k : Int) < (w.size : Int) by omega), if_pos (by simp only [List.length_cons, List.length_nil]; omega)]
      simp only [W.D, bndS_inl]
      rw [wrapL ((k : Int) + 1) (by omega) (by omega)]
      exact ⟨_, rfl, ⟨k + 1, rest, by simp, by simp only [List.append_assoc, List.singleton_append]; exact hr, d3⟩, by simp only; omega, trivial⟩
    | false =>
      rw [hp] at hd hlen
      simp only [cond_false, List.cons_append, List.nil_append] at hd
      simp only [cond_false, List.length_cons, List.length_nil] at hlen
      obtain ⟨d1, d2, d3⟩ := drop_head hd
      obtain ⟨f1, f2, f3⟩ := drop_head d3
      obtain ⟨g1, g2, g3⟩ := drop_head f3
      rw [d2, wrapL ((k : Int) + 2) (by omega) (by omega), wrapL ((k : Int) + 1) (by omega) (by omega)]
      simp only [bne_self_eq_false, cond_false]
      rw [decide_eq_false (by omega : ¬ (k : Int) + 2 ≥ (w.size : Int) - 1)]
      simp only [W.D, cond_false]
      have f2' : byteAt w ((k : Int) + 1) = digS (b / 16) := by rw [← f2]; simp
      have g2' : byteAt w ((k : Int) + 2) = digS (b % 16) := by rw [← g2]; congr 1
      rw [if_pos (show 0 ≤ (k : Int) + 1 ∧ (k : Int) + 1 < (w.size : Int) by omega), f2', i_figure_dig (by omega) (by omega), bnd_some, if_pos (show 0 ≤ (k : Int) + 2 ∧ (k : Int) + 2 < (w.size : Int) by omega), g2', i_figure_dig (by omega) (by omega)]
      simp only [W.D]
      rw [decide_eq_false (by omega : ¬ b / 16 < 0), decide_eq_false (by omega : ¬ b % 16 < 0)]
      simp only [cond_false]
      rw [if_pos (by simp only [List.length_cons, List.length_nil]; omega)]
      simp only [W.D, bndS_inl]
      rw [wrapL ((k : Int) + 2 + 1) (by omega) (by omega), q_val hb.1 hb.2]
      exact ⟨_, rfl, ⟨k + 3, rest, by simp only; omega, by simp only [List.append_assoc, List.singleton_append]; exact hr, g3⟩, by simp only; omega, trivial⟩
theorem i_Unquote_q {s : ByteArray} (hs : s.size ≤ 4096) : i_Unquote (quote s) = some (s, true) := by
  have h1 := quote_ne s hs
  simp only [i_Unquote, wi_Unquote, W.D]
  rw [i_loopUq hs (quote_bytes hs)]
  have hl' : ∀ n ∈ bytesOf s, 0 ≤ n ∧ n < 256 := bytesOf_in s
  have he : ((quote s).toList == (⟨#[]⟩ : ByteArray).toList) = false := beq_eq_false_iff_ne.2 fun e => by rw [ba_ext e] at h1; exact absurd h1 (by decide)
  simp only [bndS_inl, W.D, i_Quote_eq, he, cond_false]
  rw [if_pos hl', if_pos hl', strOf_bytesOf]
  simp
end Go.Proofs.YtagoajkiccgmjaaDoor
namespace Go.Proofs.YtagoajkiccgmjaaDoor
open Go.Mv Go.RowKit

theorem s_UserOk_eq (k : ByteArray) : s_UserOk k = some (decide (1 ≤ k.size) && decide (k.size ≤ 8)) := by
  simp only [s_UserOk, ws_UserOk, W.D]
  by_cases h1 : 1 ≤ k.size <;> by_cases h2 : k.size ≤ 8 <;> simp [h1, h2] <;> omega
theorem i_UserOk_eq (k : ByteArray) : i_UserOk k = some (decide (1 ≤ k.size) && decide (k.size ≤ 8)) := by
  simp only [i_UserOk, wi_UserOk, i_within, wi_within, W.D]
  by_cases h1 : 1 ≤ k.size <;> by_cases h2 : k.size ≤ 8 <;> simp [h1, h2] <;> omega
theorem s_UvalOk_eq (k : ByteArray) : s_UvalOk k = some (decide (k.size ≤ 20)) := by
  simp only [s_UvalOk, ws_UvalOk, W.D]
  by_cases h2 : k.size ≤ 20 <;> simp [h2] <;> omega
theorem i_UvalOk_eq (k : ByteArray) : i_UvalOk k = some (decide (k.size ≤ 20)) := by
  simp only [i_UvalOk, wi_UvalOk, W.D]
  by_cases h2 : k.size ≤ 20 <;> simp [h2] <;> omega
theorem rangeOk_eq (r : Range) : ∃ b, s_RangeOk r = some b ∧ i_RangeOk r = some b := by
  refine ⟨_, by simp only [s_RangeOk, ws_RangeOk, W.D]; rfl, ?_⟩
  simp only [i_RangeOk, wi_RangeOk, W.D]
  rw [bL_total r.lo.toList r.hi.toList]
  by_cases h1 : (r.lo.size : Int) ≤ 17
  · have h2 : ¬ (r.lo.size : Int) > 17 := by omega
    by_cases h3 : (r.hi.size : Int) ≤ 17
    · have h4 : ¬ (r.hi.size : Int) > 17 := by omega
      simp [h1, h2, h3, h4]
    · have h4 : (r.hi.size : Int) > 17 := by omega
      simp [h1, h2, h3, h4]
  · have h2 : (r.lo.size : Int) > 17 := by omega
    simp [h1, h2]
noncomputable def rOk (r : Range) : Bool := (s_RangeOk r).getD false
theorem s_RangeOk_eq (r : Range) : s_RangeOk r = some (rOk r) := by obtain ⟨b, h, _⟩ := rangeOk_eq r; rw [rOk, h]; rfl
theorem i_RangeOk_eq (r : Range) : i_RangeOk r = some (rOk r) := by obtain ⟨b, h, h2⟩ := rangeOk_eq r; rw [rOk, h, h2]; rfl
noncomputable def reOk (r : Range) : Bool := (s_ReachOk r).getD false
theorem s_ReachOk_eq (r : Range) : s_ReachOk r = some (reOk r) := by
  have : ∃ b, s_ReachOk r = some b := ⟨_, by simp only [s_ReachOk, ws_ReachOk, W.D, s_RangeOk_eq]; rfl⟩
  obtain ⟨b, h⟩ := this; rw [reOk, h]; rfl
theorem reOk_r {r : Range} (h : reOk r = true) : rOk r = true := by
  have h2 := s_ReachOk_eq r
  rw [h] at h2
  simp only [s_ReachOk, ws_ReachOk, W.D, s_RangeOk_eq] at h2
  cases h3 : rOk r with
  | true => rfl
  | false => rw [h3] at h2; simp at h2
theorem i_ReachOk_eq (r : Range) : i_ReachOk r = some (reOk r) := by
  rw [← s_ReachOk_eq]
  simp only [s_ReachOk, ws_ReachOk, i_ReachOk, wi_ReachOk, W.D, s_RangeOk_eq, i_RangeOk_eq]
noncomputable def aOk (a : Ask) : Bool := (s_AskOk a).getD false
theorem s_AskOk_eq (a : Ask) : s_AskOk a = some (aOk a) := by
  have : ∃ b, s_AskOk a = some b := ⟨_, by simp only [s_AskOk, ws_AskOk, W.D, s_UserOk_eq, s_UvalOk_eq, s_ReachOk_eq]; rfl⟩
  obtain ⟨b, h⟩ := this; rw [aOk, h]; rfl
theorem i_AskOk_eq (a : Ask) : i_AskOk a = some (aOk a) := by
  rw [← s_AskOk_eq]
  simp only [s_AskOk, ws_AskOk, i_AskOk, wi_AskOk, W.D, s_UserOk_eq, s_UvalOk_eq, s_ReachOk_eq, i_UserOk_eq, i_UvalOk_eq, i_ReachOk_eq, i_within, wi_within]
  have hv : (a.val.toList == (⟨#[]⟩ : ByteArray).toList) = true → decide (a.val.size ≤ 20) = true := fun h => by
    rw [beq_iff_eq] at h
    rw [ba_ext h]
    rfl
  simp only [beq_self_eq_true, Bool.true_and]
  generalize (a.val.toList == (⟨#[]⟩ : ByteArray).toList) = V at *
  generalize (a.key.toList == (⟨#[]⟩ : ByteArray).toList) = K at *
  generalize (a.range.lo.toList == (⟨#[]⟩ : ByteArray).toList) = X at *
  generalize (a.range.hi.toList == (⟨#[]⟩ : ByteArray).toList) = Y at *
  generalize (a.most == 0) = M at *
  generalize decide (a.val.size ≤ 20) = U at *
  generalize (decide (1 ≤ a.key.size) && decide (a.key.size ≤ 8)) = L at *
  generalize (bif decide (a.most ≥ 1) then decide (a.most ≤ 8) else false) = N at *
  generalize a.back = B at *
  by_cases h1 : a.kind = 1
  · simp only [h1]
    cases V <;> cases U <;> cases L <;> cases X <;> cases Y <;> cases M <;> cases B <;> first | rfl | (exact absurd (hv rfl) (by decide))
  by_cases h2 : a.kind = 2
  · simp only [h2]
    cases V <;> cases U <;> cases L <;> cases X <;> cases Y <;> cases M <;> cases B <;> rfl
  by_cases h3 : a.kind = 3
  · simp only [h3]
    cases V <;> cases U <;> cases L <;> cases X <;> cases Y <;> cases M <;> cases B <;> first | rfl | (exact absurd (hv rfl) (by decide))
  by_cases h4 : a.kind = 4
  · simp only [h4]
    cases V <;> cases K <;> cases N <;> cases reOk a.range <;> rfl
  have e1 : (a.kind == 1) = false := by simp [h1]
  have e2 : (a.kind == 2) = false := by simp [h2]
  have e3 : (a.kind == 3) = false := by simp [h3]
  have e4 : (a.kind == 4) = false := by simp [h4]
  have e5 : (bif decide (a.kind ≥ 1) then decide (a.kind ≤ 3) else false) = false := by
    by_cases g : a.kind ≥ 1
    · rw [decide_eq_true g, cond_true]; exact decide_eq_false (by omega)
    · rw [decide_eq_false g, cond_false]
  rw [e1, e2, e3, e4]
  by_cases g : a.kind ≥ 1
  · have : decide (a.kind ≤ 3) = false := decide_eq_false (by omega)
    rw [decide_eq_true g, this]
    simp only [cond_false, cond_true]
    cases (bif a.kind != 2 then !V else false) <;> rfl
  · rw [decide_eq_false g]
    simp only [cond_false]
    cases (bif a.kind != 2 then !V else false) <;> rfl

/-! ### What a right ask is -/
theorem emp_iff (v : ByteArray) : (v.toList == (⟨#[]⟩ : ByteArray).toList) = decide (v = ⟨#[]⟩) := by
  by_cases h : v = ⟨#[]⟩
  · subst h; simp
  · rw [decide_eq_false h, beq_eq_false_iff_ne]
    exact fun e => h (ba_ext e)
theorem reOk_sz {r : Range} (h : reOk r = true) : r.lo.size ≤ 9 ∧ r.hi.size ≤ 9 := by
  have h2 := s_ReachOk_eq r
  rw [h] at h2
  simp only [s_ReachOk, ws_ReachOk, W.D, s_RangeOk_eq] at h2
  by_cases h3 : (r.lo.size : Int) ≤ 9
  · by_cases h4 : (r.hi.size : Int) ≤ 9
    · omega
    · rw [decide_eq_true h3, decide_eq_false h4] at h2
      cases rOk r <;> simp at h2
  · rw [decide_eq_false h3] at h2
    cases rOk r <;> simp at h2
def ask0 (k : Int) (key val : ByteArray) : Ask := ⟨k, key, val, ⟨⟨#[]⟩, ⟨#[]⟩⟩, 0, false⟩
theorem aOk_is {a : Ask} (h : aOk a = true) : (a.kind = 1 ∧ a = ask0 1 a.key ⟨#[]⟩ ∧ a.key.size ≤ 8) ∨ (a.kind = 2 ∧ a = ask0 2 a.key a.val ∧ a.key.size ≤ 8 ∧ a.val.size ≤ 20) ∨ (a.kind = 3 ∧ a = ask0 3 a.key ⟨#[]⟩ ∧ a.key.size ≤ 8) ∨
    (a.kind = 4 ∧ a = ⟨4, ⟨#[]⟩, ⟨#[]⟩, a.range, a.most, a.back⟩ ∧ a.range.lo.size ≤ 9 ∧ a.range.hi.size ≤ 9 ∧ 1 ≤ a.most ∧ a.most ≤ 8) := by
  have h2 := s_AskOk_eq a
  rw [h] at h2
  obtain ⟨kind, key, val, range, most, back⟩ := a
  simp only [s_AskOk, ws_AskOk, W.D, s_UserOk_eq, s_UvalOk_eq, s_ReachOk_eq, emp_iff] at h2
  by_cases h4 : kind = 4
  · subst h4
    simp only [beq_self_eq_true, cond_true] at h2
    by_cases a1 : key = ⟨#[]⟩
    · by_cases a2 : val = ⟨#[]⟩
      · cases a3 : reOk range with
        | false => rw [decide_eq_true a1, decide_eq_true a2, a3] at h2; simp at h2
        | true =>
          by_cases a4 : most ≥ 1
          · by_cases a5 : most ≤ 8
            · subst a1; subst a2
              have := reOk_sz a3
              exact .inr (.inr (.inr ⟨rfl, rfl, this.1, this.2, a4, a5⟩))
            · rw [decide_eq_true a1, decide_eq_true a2, a3, decide_eq_true a4, decide_eq_false a5] at h2; simp at h2
          · rw [decide_eq_true a1, decide_eq_true a2, a3, decide_eq_false a4] at h2; simp at h2
      · rw [decide_eq_true a1, decide_eq_false a2] at h2; simp at h2
    · rw [decide_eq_false a1] at h2; simp at h2
  · rw [show (kind == 4) = false by simp [h4]] at h2
    simp only [cond_false] at h2
    obtain ⟨rlo, rhi⟩ := range
    by_cases b1 : kind ≥ 1
    · by_cases b2 : kind ≤ 3
      · by_cases b3 : rlo = ⟨#[]⟩
        · by_cases b4 : rhi = ⟨#[]⟩
          · by_cases b5 : most = 0
            · cases back with
              | true => rw [decide_eq_true b1, decide_eq_true b2, decide_eq_true b3, decide_eq_true b4, b5] at h2; simp at h2
              | false =>
                by_cases b6 : (1 ≤ key.size ∧ key.size ≤ 8)
                · subst b3; subst b4; subst b5
                  by_cases b7 : val.size ≤ 20
                  · obtain h5 | h5 | h5 : kind = 1 ∨ kind = 2 ∨ kind = 3 := by omega
                    · subst h5
                      by_cases b8 : val = ⟨#[]⟩
                      · subst b8; exact .inl ⟨rfl, rfl, b6.2⟩
                      · rw [decide_eq_false b8] at h2; simp at h2
                    · subst h5; exact .inr (.inl ⟨rfl, rfl, b6.2, b7⟩)
                    · subst h5
                      by_cases b8 : val = ⟨#[]⟩
                      · subst b8; exact .inr (.inr (.inl ⟨rfl, rfl, b6.2⟩))
                      · rw [decide_eq_false b8] at h2; simp at h2
                  · rw [decide_eq_false b7] at h2; simp at h2
                · have : (decide (1 ≤ key.size) && decide (key.size ≤ 8)) = false := by simpa using b6
                  rw [this] at h2; simp at h2
            · rw [show (most == 0) = false by simp [b5]] at h2; simp at h2
          · rw [decide_eq_false b4] at h2; simp at h2
        · rw [decide_eq_false b3] at h2; simp at h2
      · rw [decide_eq_false b2] at h2; simp at h2
    · rw [decide_eq_false b1] at h2; simp at h2
def zA (q : Ask) : Bool := (q.kind == 0) && ((q.key.toList == ((⟨#[]⟩ : ByteArray)).toList) && ((q.val.toList == ((⟨#[]⟩ : ByteArray)).toList) && ((q.range.lo.toList == ((⟨#[]⟩ : ByteArray)).toList) && ((q.range.hi.toList == ((⟨#[]⟩ : ByteArray)).toList) && ((q.most == 0) && ((q.back == false) && true))))))
theorem zA_is {q : Ask} (h : zA q = true) : q = ask0 0 ⟨#[]⟩ ⟨#[]⟩ := by
  unfold zA at h
  obtain ⟨kind, key, val, ⟨lo, hi⟩, most, back⟩ := q
  simp only [emp_iff, Bool.and_eq_true, beq_iff_eq, decide_eq_true_eq, and_true] at h
  obtain ⟨rfl, rfl, rfl, rfl, rfl, rfl, rfl⟩ := h
  rfl
noncomputable def cOk (c : Call) : Bool := bif c.kind == 2 then aOk c.ask else bif decide (c.kind ≥ 1) then (bif decide (c.kind ≤ 4) then zA c.ask else false) else false
theorem s_CallOk_eq (c : Call) : s_CallOk c = some (cOk c) := by simp only [s_CallOk, ws_CallOk, W.D, s_AskOk_eq, cOk, zA]
theorem i_CallOk_eq (c : Call) : i_CallOk c = some (cOk c) := by
  simp only [i_CallOk, wi_CallOk, W.D, i_AskOk_eq, i_within_eq, cOk, zA]
  cases decide (c.kind ≥ 1) <;> rfl
theorem cOk_is {c : Call} (h : cOk c = true) : (c = ⟨1, ask0 0 ⟨#[]⟩ ⟨#[]⟩⟩) ∨ (c = ⟨3, ask0 0 ⟨#[]⟩ ⟨#[]⟩⟩) ∨ (c = ⟨4, ask0 0 ⟨#[]⟩ ⟨#[]⟩⟩) ∨ (c.kind = 2 ∧ aOk c.ask = true) := by
  obtain ⟨kind, ask⟩ := c
  unfold cOk at h
  by_cases h2 : kind = 2
  · subst h2; simp only [beq_self_eq_true, cond_true] at h; exact .inr (.inr (.inr ⟨rfl, h⟩))
  · simp only [show (kind == 2) = false by simp [h2], cond_false] at h
    by_cases h3 : kind ≥ 1
    · by_cases h4 : kind ≤ 4
      · rw [decide_eq_true h3, decide_eq_true h4] at h
        have := zA_is h
        subst this
        obtain h5 | h5 | h5 : kind = 1 ∨ kind = 3 ∨ kind = 4 := by omega
        · subst h5; exact .inl rfl
        · subst h5; exact .inr (.inl rfl)
        · subst h5; exact .inr (.inr (.inl rfl))
      · rw [decide_eq_false h4] at h; simp at h
    · rw [decide_eq_false h3] at h; simp at h
end Go.Proofs.YtagoajkiccgmjaaDoor
namespace Go.Proofs.YtagoajkiccgmjaaDoor
open Go.Mv Go.RowKit

/-! ### The text of a step -/
noncomputable def isE (v : ByteArray) : Bool := v.toList == (⟨#[]⟩ : ByteArray).toList
theorem isE_size (v : ByteArray) : isE v = decide (v.size = 0) := by
  unfold isE
  rw [ByteArray.toList_eq, ByteArray.toList_eq]
  obtain ⟨⟨l⟩⟩ := v
  cases l <;> simp [ByteArray.size]
theorem isE_quote {s : ByteArray} (h : s.size ≤ 4096) : isE (quote s) = false := by
  rw [isE_size]
  exact decide_eq_false (by have := quote_ne s h; omega)
theorem isE_num (n : Int) : isE (numText n) = !(l01Num n) := by
  rw [isE_size]
  cases h : l01Num n
  · rw [num_no h]; rfl
  · have := (num_bytes n.toNat n (Nat.le_refl _) h).2.2
    exact decide_eq_false (by omega)
noncomputable def askW (q : Ask) : List ByteArray := bif q.kind == 1 then [(⟨#[103, 101, 116]⟩ : ByteArray), quote q.key] else bif q.kind == 2 then [(⟨#[112, 117, 116]⟩ : ByteArray), quote q.key, quote q.val] else
  bif q.kind == 3 then [(⟨#[100, 101, 108]⟩ : ByteArray), quote q.key] else [bif q.back then (⟨#[98, 97, 99, 107]⟩ : ByteArray) else (⟨#[115, 99, 97, 110]⟩ : ByteArray), quote q.range.lo, quote q.range.hi, numText q.most]
theorem i_askWords_eq (q : Ask) : i_askWords q = some (askW q) := by
  simp only [i_askWords, wi_askWords, W.D, i_Quote_eq, i_NumText_eq, askW]
noncomputable def callW (c : Call) : List ByteArray := bif c.kind == 1 then [(⟨#[98, 101, 103, 105, 110]⟩ : ByteArray)] else bif c.kind == 3 then [(⟨#[99, 111, 109, 109, 105, 116]⟩ : ByteArray)] else
  bif c.kind == 4 then [(⟨#[97, 98, 111, 114, 116]⟩ : ByteArray)] else askW c.ask
theorem i_callWords_eq (c : Call) : i_callWords c = some (callW c) := by
  simp only [i_callWords, wi_callWords, W.D, i_askWords_eq, callW]
noncomputable def callT (c : Call) : ByteArray := bif cOk c then joinB (callW c) ⟨#[32]⟩ else ⟨#[]⟩
theorem lit_get : (⟨#[103, 101, 116]⟩ : ByteArray) ++ (⟨#[32]⟩ : ByteArray) = (⟨#[103, 101, 116, 32]⟩ : ByteArray) := by apply ByteArray.ext; rfl
theorem lit_put : (⟨#[112, 117, 116]⟩ : ByteArray) ++ (⟨#[32]⟩ : ByteArray) = (⟨#[112, 117, 116, 32]⟩ : ByteArray) := by apply ByteArray.ext; rfl
theorem lit_del : (⟨#[100, 101, 108]⟩ : ByteArray) ++ (⟨#[32]⟩ : ByteArray) = (⟨#[100, 101, 108, 32]⟩ : ByteArray) := by apply ByteArray.ext; rfl
theorem lit_scan : (⟨#[115, 99, 97, 110]⟩ : ByteArray) ++ (⟨#[32]⟩ : ByteArray) = (⟨#[115, 99, 97, 110, 32]⟩ : ByteArray) := by apply ByteArray.ext; rfl
theorem lit_back : (⟨#[98, 97, 99, 107]⟩ : ByteArray) ++ (⟨#[32]⟩ : ByteArray) = (⟨#[98, 97, 99, 107, 32]⟩ : ByteArray) := by apply ByteArray.ext; rfl
theorem s_l14Call_eq (c : Call) : s_l14Call c = some (callT c) := by
  simp only [s_l14Call, ws_l14Call, W.D, s_CallOk_eq, s_Quote_eq, s_NumText_eq]
  unfold callT
  cases hc : cOk c with
  | false => rfl
  | true =>
    simp only [Bool.not_true, cond_false, cond_true]
    rcases cOk_is hc with rfl | rfl | rfl | ⟨hk, ha⟩
    · simp [callW, joinB_one]
    · simp [callW, joinB_one]
    · simp [callW, joinB_one]
    · obtain ⟨kind, ask⟩ := c
      simp only at hk ha
      subst hk
      have l1 := numText_size ask.most
      have q1 := quote_size ask.key
      have q2 := quote_size ask.val
      have q3 := quote_size ask.range.lo
      have q4 := quote_size ask.range.hi
      rcases aOk_is ha with ⟨h1, _⟩ | ⟨h1, _⟩ | ⟨h1, _⟩ | ⟨h1, _⟩
      · simp only [h1, callW, askW, show ((2 : Int) == 1) = false from rfl, show ((2 : Int) == 3) = false from rfl, show ((2 : Int) == 4) = false from rfl, beq_self_eq_true, cond_true, cond_false]
        rw [if_pos (by simp only [mv_size_mk, List.size_toArray, List.length_cons, List.length_nil]; omega), joinB_cons, joinB_one, lit_get]
      · simp only [h1, callW, askW, show ((2 : Int) == 1) = false from rfl, show ((2 : Int) == 3) = false from rfl, show ((2 : Int) == 4) = false from rfl, beq_self_eq_true, cond_true, cond_false]
        rw [if_pos (by simp only [mv_size_mk, List.size_toArray, List.length_cons, List.length_nil]; omega), if_pos (by simp only [ByteArray.size_append, mv_size_mk, List.size_toArray, List.length_cons, List.length_nil]; omega),
          if_pos (by simp only [ByteArray.size_append, mv_size_mk, List.size_toArray, List.length_cons, List.length_nil]; omega), joinB_cons, joinB_cons, joinB_one, lit_put]
        simp only [ByteArray.append_assoc]
      · simp only [h1, callW, askW, show ((2 : Int) == 1) = false from rfl, show ((2 : Int) == 3) = false from rfl, show ((2 : Int) == 4) = false from rfl, show ((3 : Int) == 1) = false from rfl, show ((3 : Int) == 2) = false from rfl, beq_self_eq_true, cond_true, cond_false]
        rw [if_pos (by simp only [mv_size_mk, List.size_toArray, List.length_cons, List.length_nil]; omega), joinB_cons, joinB_one, lit_del]
      · simp only [h1, callW, askW, show ((2 : Int) == 1) = false from rfl, show ((2 : Int) == 3) = false from rfl, show ((2 : Int) == 4) = false from rfl, show ((4 : Int) == 1) = false from rfl, show ((4 : Int) == 2) = false from rfl, show ((4 : Int) == 3) = false from rfl, cond_false]
        cases ask.back <;> simp only [cond_true, cond_false]
        all_goals
          rw [if_pos (by simp only [ByteArray.size_append, mv_size_mk, List.size_toArray, List.length_cons, List.length_nil]; omega), if_pos (by simp only [ByteArray.size_append, mv_size_mk, List.size_toArray, List.length_cons, List.length_nil]; omega),
            if_pos (by simp only [ByteArray.size_append, mv_size_mk, List.size_toArray, List.length_cons, List.length_nil]; omega), if_pos (by simp only [ByteArray.size_append, mv_size_mk, List.size_toArray, List.length_cons, List.length_nil]; omega),
            if_pos (by simp only [ByteArray.size_append, mv_size_mk, List.size_toArray, List.length_cons, List.length_nil]; omega), joinB_cons, joinB_cons, joinB_cons, joinB_one]
          first | rw [lit_scan] | rw [lit_back]
          simp only [ByteArray.append_assoc]
theorem cOk_kind {c : Call} (h : cOk c = true) : 1 ≤ c.kind ∧ c.kind ≤ 4 := by
  rcases cOk_is h with rfl | rfl | rfl | ⟨hk, _⟩
  · exact ⟨by decide, by decide⟩
  · exact ⟨by decide, by decide⟩
  · exact ⟨by decide, by decide⟩
  · omega
theorem callOk_not_E {c : Call} (h : cOk c = true) : ((c.kind == 0) && zA c.ask) = false := by
  have := cOk_kind h
  have : c.kind ≠ 0 := by omega
  simp [this]
noncomputable def noEmpty (ws : List ByteArray) : Bool := ws.all fun w => !(w.toList == (⟨#[]⟩ : ByteArray).toList)
theorem noEmpty_cons (w : ByteArray) (ws : List ByteArray) : noEmpty (w :: ws) = (!(isE w) && noEmpty ws) := rfl
theorem noEmpty_append (a b : List ByteArray) : noEmpty (a ++ b) = (noEmpty a && noEmpty b) := by unfold noEmpty; rw [List.all_append]
theorem noEmpty_num : ∀ ns : List Int, noEmpty (ns.map numText) = ns.all l01Num
  | [] => rfl
  | n :: ns => by rw [List.map_cons, noEmpty_cons, noEmpty_num ns, isE_num, Bool.not_not, List.all_cons]
theorem isE_nil : isE ⟨#[]⟩ = true := by rw [isE_size]; rfl
theorem call_isE : isE (⟨#[99, 97, 108, 108]⟩ : ByteArray) = false := by rw [isE_size]; rfl
theorem isE_lit {a : Array UInt8} (h : 0 < a.size) : isE ⟨a⟩ = false := by rw [isE_size]; exact decide_eq_false (by show ¬ a.size = 0; omega)
theorem callW_ok {c : Call} (h : cOk c = true) : noEmpty (callW c) = true ∧ callW c ≠ [] := by
  rcases cOk_is h with rfl | rfl | rfl | ⟨hk, ha⟩
  · exact ⟨by simp only [callW]; rw [show ((1 : Int) == 1) = true from rfl, cond_true, noEmpty_cons, isE_lit (by decide)]; rfl, by simp [callW]⟩
  · exact ⟨by simp only [callW]; rw [show ((3 : Int) == 1) = false from rfl, show ((3 : Int) == 3) = true from rfl, cond_false, cond_true, noEmpty_cons, isE_lit (by decide)]; rfl, by simp [callW]⟩
  · exact ⟨by simp only [callW]; rw [show ((4 : Int) == 1) = false from rfl, show ((4 : Int) == 3) = false from rfl, show ((4 : Int) == 4) = true from rfl, cond_false, cond_false, cond_true, noEmpty_cons, isE_lit (by decide)]; rfl, by simp [callW]⟩
  · have e : callW c = askW c.ask := by simp [callW, hk]
    rw [e]
    rcases aOk_is ha with ⟨h1, _, h3⟩ | ⟨h1, _, h3, h4⟩ | ⟨h1, _, h3⟩ | ⟨h1, _, h3, h4, h5, h6⟩
    · have e2 : askW c.ask = [(⟨#[103, 101, 116]⟩ : ByteArray), quote c.ask.key] := by simp [askW, h1]
      rw [e2, noEmpty_cons, noEmpty_cons, isE_lit (by decide), isE_quote (by omega)]
      exact ⟨rfl, by simp⟩
    · have e2 : askW c.ask = [(⟨#[112, 117, 116]⟩ : ByteArray), quote c.ask.key, quote c.ask.val] := by simp [askW, h1]
      rw [e2, noEmpty_cons, noEmpty_cons, noEmpty_cons, isE_lit (by decide), isE_quote (by omega), isE_quote (by omega)]
      exact ⟨rfl, by simp⟩
    · have e2 : askW c.ask = [(⟨#[100, 101, 108]⟩ : ByteArray), quote c.ask.key] := by simp [askW, h1]
      rw [e2, noEmpty_cons, noEmpty_cons, isE_lit (by decide), isE_quote (by omega)]
      exact ⟨rfl, by simp⟩
    · have e2 : askW c.ask = [bif c.ask.back then (⟨#[98, 97, 99, 107]⟩ : ByteArray) else (⟨#[115, 99, 97, 110]⟩ : ByteArray), quote c.ask.range.lo, quote c.ask.range.hi, numText c.ask.most] := by simp [askW, h1]
      rw [e2, noEmpty_cons, noEmpty_cons, noEmpty_cons, noEmpty_cons, isE_quote (by omega), isE_quote (by omega), isE_num, l01_of (by omega) (by omega)]
      refine ⟨?_, by simp⟩
      cases c.ask.back
      · rw [cond_false, isE_lit (by decide)]; rfl
      · rw [cond_true, isE_lit (by decide)]; rfl
theorem callT_ne {c : Call} (h : cOk c = true) : isE (callT c) = false := by
  obtain ⟨h1, h2⟩ := callW_ok h
  rw [callT, h, cond_true]
  cases hw : callW c with
  | nil => exact absurd hw h2
  | cons w ws =>
    rw [hw, noEmpty_cons, Bool.and_eq_true, Bool.not_eq_true'] at h1
    have h3 := h1.1
    rw [isE_size, decide_eq_false_iff_not] at h3
    rw [isE_size, decide_eq_false_iff_not]
    cases ws with
    | nil => rw [joinB_one]; exact h3
    | cons x xs => rw [joinB_cons, ByteArray.size_append, ByteArray.size_append]; omega
theorem callW_text {c : Call} (h : cOk c = true) : noEmpty (callW c) = true ∧ joinB (callW c) ⟨#[32]⟩ = callT c ∧ callW c ≠ [] := by
  obtain ⟨h1, h2⟩ := callW_ok h
  exact ⟨h1, by rw [callT, h]; rfl, h2⟩
theorem callT_ne' {c : Call} (h : cOk c = true) : isE (callT c) = false := callT_ne h
noncomputable def wordOf (p0 : Int) : ByteArray := (i_wordOf p0).getD ⟨#[]⟩
theorem i_wordOf_eq (k : Int) : i_wordOf k = some (wordOf k) := by
  have : ∃ v, i_wordOf k = some v := ⟨_, by simp only [i_wordOf, wi_wordOf, W.D]; rfl⟩
  obtain ⟨v, h⟩ := this
  rw [wordOf, h]
  rfl
noncomputable def wordsS : List ByteArray := (s_l14Words).getD []
theorem s_l14Words_eq : s_l14Words = some wordsS := by
  have : ∃ v, s_l14Words = some v := ⟨_, by simp only [s_l14Words, ws_l14Words, W.D]; rfl⟩
  obtain ⟨v, h⟩ := this
  rw [wordsS, h]
  rfl
theorem wordsS_is : wordsS = [(⟨#[]⟩ : ByteArray), (⟨#[99, 97, 108, 108]⟩ : ByteArray), (⟨#[100, 101, 108, 105, 118, 101, 114]⟩ : ByteArray), (⟨#[108, 111, 115, 101]⟩ : ByteArray), (⟨#[100, 111, 117, 98, 108, 101]⟩ : ByteArray), (⟨#[116, 105, 99, 107]⟩ : ByteArray), (⟨#[100, 111, 119, 110]⟩ : ByteArray), (⟨#[116, 111, 114, 110]⟩ : ByteArray), (⟨#[117, 112]⟩ : ByteArray), (⟨#[99, 97, 108, 109]⟩ : ByteArray)] := by
  rw [wordsS]
  simp only [s_l14Words, ws_l14Words, W.D]
  rfl
theorem wordOf_is (k : Int) : wordOf k = bif k == 2 then (⟨#[100, 101, 108, 105, 118, 101, 114]⟩ : ByteArray) else bif k == 3 then (⟨#[108, 111, 115, 101]⟩ : ByteArray) else bif k == 4 then (⟨#[100, 111, 117, 98, 108, 101]⟩ : ByteArray) else
    bif k == 5 then (⟨#[116, 105, 99, 107]⟩ : ByteArray) else bif k == 6 then (⟨#[100, 111, 119, 110]⟩ : ByteArray) else bif k == 7 then (⟨#[116, 111, 114, 110]⟩ : ByteArray) else bif k == 8 then (⟨#[117, 112]⟩ : ByteArray) else bif k == 9 then (⟨#[99, 97, 108, 109]⟩ : ByteArray) else ⟨#[]⟩ := by
  rw [wordOf]
  simp only [i_wordOf, wi_wordOf, W.D]
  rfl
noncomputable def elW (n : Int) : ByteArray := (wordsS[n.toNat]?).getD ⟨#[]⟩
theorem getI_words {k : Int} (h : 1 ≤ k ∧ k ≤ 9) : getI wordsS k = some (elW k) := by
  obtain h | h | h | h | h | h | h | h | h : k = 1 ∨ k = 2 ∨ k = 3 ∨ k = 4 ∨ k = 5 ∨ k = 6 ∨ k = 7 ∨ k = 8 ∨ k = 9 := by omega
  all_goals subst h; rw [elW, wordsS_is]; rfl
theorem elW_size (k : Int) : (elW k).size ≤ 7 := by
  rw [elW, wordsS_is]
  generalize k.toNat = n
  rcases Nat.lt_or_ge n 10 with h | h
  · obtain h | h | h | h | h | h | h | h | h | h : n = 0 ∨ n = 1 ∨ n = 2 ∨ n = 3 ∨ n = 4 ∨ n = 5 ∨ n = 6 ∨ n = 7 ∨ n = 8 ∨ n = 9 := by omega
    all_goals subst h; decide
  · rw [List.getElem?_eq_none (by simpa using h)]; exact Nat.zero_le _

noncomputable def c1S (p : Step) : Bool := bif (decide (p.kind < 1)) then true else (bif (decide (p.kind > 9)) then true else (bif (!(l01Num p.a)) then true else (!(l01Num p.b))))
noncomputable def c2I (p : Step) : Bool := bif ((p.kind != 7)) then (bif ((p.b != 0)) then true else (bif (decide ((((p.keep.length : Nat) : Int)) > 0)) then true else (bif ((p.kind == 5)) then ((p.a != 0)) else false))) else (bif ((p.kind == 5)) then ((p.a != 0)) else false)
noncomputable def c2S (p : Step) : Bool := bif ((p.kind != 1)) then (bif ((p.call.kind != 0)) then true else (bif (!(zA p.call.ask)) then true else c2I p)) else c2I p
noncomputable def headW (p : Step) : ByteArray := bif ((p.kind == 7)) then (((bif ((p.kind != 5)) then (((elW p.kind) ++ ((⟨#[32]⟩ : ByteArray))) ++ (numText p.a)) else (elW p.kind)) ++ ((⟨#[32]⟩ : ByteArray))) ++ (numText p.b)) else (bif ((p.kind != 5)) then (((elW p.kind) ++ ((⟨#[32]⟩ : ByteArray))) ++ (numText p.a)) else (elW p.kind))
noncomputable def keepT : List Int → ByteArray → ByteArray
  | [], o => o
  | n :: ns, o => keepT ns ((o ++ ⟨#[32]⟩) ++ numText n)
noncomputable def stS (p : Step) : ByteArray := bif c1S p then ⟨#[]⟩ else bif c2S p then ⟨#[]⟩ else bif !(p.keep.all l01Num) then ⟨#[]⟩ else
  bif (p.kind == 1) then (bif ((callT p.call).toList == (⟨#[]⟩ : ByteArray).toList) then ⟨#[]⟩ else (keepT p.keep (headW p) ++ ⟨#[32]⟩) ++ callT p.call) else keepT p.keep (headW p)
noncomputable def c1I (p : Step) : Bool := bif (!(((p.kind == 1)) == (!((p.call.kind == 0) && zA p.call.ask)))) then true else (bif ((p.kind == 1)) then (bif (!(cOk p.call)) then true else false) else (((wordOf p.kind).toList == ((⟨#[]⟩ : ByteArray)).toList)))
noncomputable def wordsI (p : Step) : List ByteArray := bif (p.kind == 1) then [(⟨#[99, 97, 108, 108]⟩ : ByteArray), numText p.a] ++ callW p.call else bif (p.kind == 5) then [wordOf p.kind] else bif (p.kind == 7) then [wordOf p.kind, numText p.a, numText p.b] ++ p.keep.map numText else [wordOf p.kind, numText p.a]
noncomputable def stI (p : Step) : ByteArray := bif c1I p then ⟨#[]⟩ else bif c2I p then ⟨#[]⟩ else bif noEmpty (wordsI p) then joinB (wordsI p) ⟨#[32]⟩ else ⟨#[]⟩
theorem c2I_false {p : Step} (h7 : p.kind ≠ 7) (h : c2I p = false) : p.b = 0 ∧ p.keep = [] ∧ (p.kind = 5 → p.a = 0) := by
  unfold c2I at h
  rw [show (p.kind != 7) = true by simp [h7], cond_true] at h
  by_cases hb : p.b = 0
  · rw [show (p.b != 0) = false by simp [hb], cond_false] at h
    cases hk : p.keep with
    | nil =>
      refine ⟨hb, rfl, fun h5 => ?_⟩
      rw [hk] at h
      rw [show decide (((([] : List Int).length : Nat) : Int) > 0) = false from rfl, cond_false, show (p.kind == 5) = true by simp [h5], cond_true] at h
      simpa using h
    | cons x xs =>
      rw [hk] at h
      rw [decide_eq_true (by simp only [List.length_cons]; omega), cond_true] at h
      cases h
  · rw [show (p.b != 0) = true by simp [hb], cond_true] at h
    cases h
theorem wordOf_el {k : Int} (h : 2 ≤ k ∧ k ≤ 9) : wordOf k = elW k ∧ isE (wordOf k) = false := by
  obtain h | h | h | h | h | h | h | h : k = 2 ∨ k = 3 ∨ k = 4 ∨ k = 5 ∨ k = 6 ∨ k = 7 ∨ k = 8 ∨ k = 9 := by omega
  all_goals subst h; rw [wordOf_is, elW, wordsS_is]; exact ⟨rfl, by rw [isE_size]; rfl⟩
theorem wordOf_no {k : Int} (h : ¬ (2 ≤ k ∧ k ≤ 9)) : isE (wordOf k) = true := by
  have f : ∀ j : Int, 2 ≤ j → j ≤ 9 → (k == j) = false := fun j h1 h2 => by
    rw [beq_eq_false_iff_ne]; rintro rfl; exact h ⟨h1, h2⟩
  rw [wordOf_is]
  rw [f 2 (by decide) (by decide), f 3 (by decide) (by decide), f 4 (by decide) (by decide), f 5 (by decide) (by decide), f 6 (by decide) (by decide), f 7 (by decide) (by decide), f 8 (by decide) (by decide), f 9 (by decide) (by decide), isE_size]
  rfl
theorem foldJ_num : ∀ (ns : List Int) (o : ByteArray), foldJ ⟨#[32]⟩ (ns.map numText) o = keepT ns o
  | [], _ => rfl
  | n :: ns, o => by rw [List.map_cons, foldJ, keepT, foldJ_num ns]
theorem foldJ_join (sep : ByteArray) : ∀ (ws : List ByteArray) (o : ByteArray), ws ≠ [] → foldJ sep ws o = (o ++ sep) ++ joinB ws sep
  | [], _, h => absurd rfl h
  | w :: ws, o, _ => by rw [foldJ, foldJ_append, joinB_fold]
theorem step_call {p : Step} (hk : p.kind = 1) : stI p = stS p := by
  have e1 : (p.kind == 1) = true := by simp [hk]
  have e5 : (p.kind == 5) = false := by simp [hk]
  have e7 : (p.kind == 7) = false := by simp [hk]
  have n5 : (p.kind != 5) = true := by simp [hk]
  have hc2 : c2S p = c2I p := by unfold c2S; rw [show (p.kind != 1) = false by simp [hk]]; rfl
  rw [stI, stS, hc2]
  cases h2 : c2I p
  · obtain ⟨hb, hkeep, _⟩ := c2I_false (by omega) h2
    cases ha : l01Num p.a
    · have hs : c1S p = true := by unfold c1S; rw [ha]; cases decide (p.kind < 1) <;> cases decide (p.kind > 9) <;> rfl
      have hn : noEmpty (wordsI p) = false := by
        unfold wordsI
        rw [e1, cond_true, noEmpty_append, noEmpty_cons, noEmpty_cons, isE_num, ha]
        simp
      rw [hs, hn]
      cases c1I p <;> rfl
    · have hs : c1S p = false := by
        unfold c1S
        rw [ha, hb, show l01Num 0 = true from rfl, decide_eq_false (show ¬ p.kind < 1 by omega), decide_eq_false (show ¬ p.kind > 9 by omega)]
        rfl
      rw [hs, hkeep, e1]
      cases hok : cOk p.call
      · have hi : c1I p = true := by
          unfold c1I
          rw [e1, hok]
          cases ((p.call.kind == 0) && zA p.call.ask) <;> rfl
        have ht : callT p.call = ⟨#[]⟩ := by unfold callT; rw [hok]; rfl
        rw [hi, ht, cond_true]
        show _ = bif isE ⟨#[]⟩ then _ else _
        rw [isE_nil]
        rfl
      · have hi : c1I p = false := by
          unfold c1I
          rw [e1, hok, callOk_not_E hok]
          rfl
        obtain ⟨g1, g2, g3⟩ := callW_text hok
        have hn : noEmpty (wordsI p) = true := by
          unfold wordsI
          rw [e1, cond_true, noEmpty_append, noEmpty_cons, noEmpty_cons, isE_num, ha, call_isE, g1]
          rfl
        have hw : wordsI p = (⟨#[99, 97, 108, 108]⟩ : ByteArray) :: numText p.a :: callW p.call := by unfold wordsI; rw [e1]; rfl
        have hh : headW p = ((⟨#[99, 97, 108, 108]⟩ : ByteArray) ++ ⟨#[32]⟩) ++ numText p.a := by
          unfold headW
          rw [e7, n5, cond_false, cond_true, hk, show elW 1 = (⟨#[99, 97, 108, 108]⟩ : ByteArray) by rw [elW, wordsS_is]; rfl]
        rw [hi, hn, hw, joinB_fold, foldJ, foldJ_join _ _ _ g3, g2, hh]
        show _ = bif isE (callT p.call) then _ else _
        rw [callT_ne hok]
        rfl
  · cases c1I p <;> cases c1S p <;> rfl
theorem step_other {p : Step} (hk : p.kind ≠ 1) : stI p = stS p := by
  have e1 : (p.kind == 1) = false := by simp [hk]
  have n1 : (p.kind != 1) = true := by simp [hk]
  rw [stI, stS, e1]
  cases hE : ((p.call.kind == 0) && zA p.call.ask)
  · have hi : c1I p = true := by unfold c1I; rw [e1, hE]; rfl
    have hs : c2S p = true := by
      unfold c2S
      rw [n1, cond_true]
      cases h0 : (p.call.kind == 0)
      · rw [show (p.call.kind != 0) = true by simp only [bne, h0]; rfl]; rfl
      · rw [h0, Bool.true_and] at hE
        rw [hE]
        cases (p.call.kind != 0) <;> rfl
    rw [hi, hs]
    cases c1S p <;> rfl
  · rw [Bool.and_eq_true] at hE
    have hs : c2S p = c2I p := by
      unfold c2S
      rw [n1, hE.2, show (p.call.kind != 0) = false by simp only [bne, hE.1]; rfl]
      rfl
    have hi : c1I p = isE (wordOf p.kind) := by
      unfold c1I
      rw [e1, hE.1, hE.2]
      rfl
    rw [hs, hi]
    cases h2 : c2I p
    · by_cases hr : 2 ≤ p.kind ∧ p.kind ≤ 9
      · obtain ⟨w1, w2⟩ := wordOf_el hr
        have d1 : decide (p.kind < 1) = false := decide_eq_false (by omega)
        have d2 : decide (p.kind > 9) = false := decide_eq_false (by omega)
        rw [w2]
        by_cases h7 : p.kind = 7
        · have e5 : (p.kind == 5) = false := by simp [h7]
          have e7 : (p.kind == 7) = true := by simp [h7]
          have n5 : (p.kind != 5) = true := by simp [h7]
          have hw : wordsI p = wordOf p.kind :: numText p.a :: numText p.b :: p.keep.map numText := by unfold wordsI; rw [e1, e5, e7]; rfl
          have hn : noEmpty (wordsI p) = (l01Num p.a && (l01Num p.b && p.keep.all l01Num)) := by
            rw [hw, noEmpty_cons, noEmpty_cons, noEmpty_cons, noEmpty_num, isE_num, isE_num, w2]
            simp
          have hh : headW p = ((((wordOf p.kind) ++ ⟨#[32]⟩) ++ numText p.a) ++ ⟨#[32]⟩) ++ numText p.b := by unfold headW; rw [e7, n5, w1]; rfl
          have hc : c1S p = !(l01Num p.a && l01Num p.b) := by
            unfold c1S
            rw [d1, d2]
            cases l01Num p.a <;> cases l01Num p.b <;> rfl
          rw [hn, hc, hw, joinB_fold, foldJ, foldJ, foldJ_num, hh]
          cases l01Num p.a <;> cases l01Num p.b <;> cases p.keep.all l01Num <;> rfl
        · obtain ⟨hb, hkeep, h5⟩ := c2I_false h7 h2
          have e7 : (p.kind == 7) = false := by simp [h7]
          have hc : c1S p = !(l01Num p.a) := by
            unfold c1S
            rw [d1, d2, hb, show l01Num 0 = true from rfl]
            cases l01Num p.a <;> rfl
          rw [hc, hkeep]
          by_cases h5' : p.kind = 5
          · have e5 : (p.kind == 5) = true := by simp [h5']
            have hw : wordsI p = [wordOf p.kind] := by unfold wordsI; rw [e1, e5]; rfl
            have hh : headW p = wordOf p.kind := by unfold headW; rw [e7, show (p.kind != 5) = false by simp [h5'], w1]; rfl
            rw [h5 h5', hw, noEmpty_cons, w2, joinB_one, hh]
            rfl
          · have e5 : (p.kind == 5) = false := by simp [h5']
            have n5 : (p.kind != 5) = true := by simp [h5']
            have hw : wordsI p = [wordOf p.kind, numText p.a] := by unfold wordsI; rw [e1, e5, e7]; rfl
            have hh : headW p = ((wordOf p.kind) ++ ⟨#[32]⟩) ++ numText p.a := by unfold headW; rw [e7, n5, w1]; rfl
            rw [hw, noEmpty_cons, noEmpty_cons, w2, isE_num, joinB_cons, joinB_one, hh]
            cases l01Num p.a <;> rfl
      · have hc : c1S p = true := by
          unfold c1S
          by_cases d1 : p.kind < 1
          · rw [decide_eq_true d1]; rfl
          · rw [decide_eq_false d1, decide_eq_true (show p.kind > 9 by omega)]; rfl
        rw [wordOf_no hr, hc]
        rfl
    · cases isE (wordOf p.kind) <;> cases c1S p <;> rfl
theorem stI_eq (p : Step) : stI p = stS p := by
  by_cases h : p.kind = 1
  · exact step_call h
  · exact step_other h
end Go.Proofs.YtagoajkiccgmjaaDoor
