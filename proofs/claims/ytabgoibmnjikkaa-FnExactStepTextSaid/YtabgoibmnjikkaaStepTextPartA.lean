/- What functions of the given program compute, each proved once, for the law that is proved in YtabgoibmnjikkaaStepText: whatever their arguments, under the conditions that each theorem names. -/
import Derived.Shelf.Strings.OnBuilder
import Derived.Test.YtabgoibmnjikkaaMvIII
import Derived.Test.YtabgoibmnjikkaaProg
set_option linter.unusedVariables false
set_option linter.unusedSimpArgs false
namespace Go.Proofs.Ytabgoibmnjikkaa
open Go.Mv Go.RowKit
theorem eqD33 : EqD Try.prog 9998 33 [.str, .str] :=
  eqD_struct (d := 9997) (fs := [⟨ "Lo", 9, 0, false, "", "", 0⟩, ⟨ "Hi", 9, 1, false, "", "", 16⟩]) (by kernel_rfl) (by kernel_rfl) (by kernel_rfl) (eqFs_leaf (by decide) rfl Try.isAgg9 (eqK_str (d := 9996) Try.underlying9) (eqFs_leaf (by decide) rfl Try.isAgg9 (eqK_str (d := 9996) Try.underlying9) (eqFs_nil)))
theorem eqD33b : EqD Try.prog 9999 33 [.str, .str] :=
  eqD_struct (d := 9998) (fs := [⟨ "Lo", 9, 0, false, "", "", 0⟩, ⟨ "Hi", 9, 1, false, "", "", 16⟩]) (by kernel_rfl) (by kernel_rfl) (by kernel_rfl) (eqFs_leaf (by decide) rfl Try.isAgg9 (eqK_str (d := 9997) Try.underlying9) (eqFs_leaf (by decide) rfl Try.isAgg9 (eqK_str (d := 9997) Try.underlying9) (eqFs_nil)))
theorem eqD33c : EqD Try.prog 10000 33 [.str, .str] :=
  eqD_struct (d := 9999) (fs := [⟨ "Lo", 9, 0, false, "", "", 0⟩, ⟨ "Hi", 9, 1, false, "", "", 16⟩]) (by kernel_rfl) (by kernel_rfl) (by kernel_rfl) (eqFs_leaf (by decide) rfl Try.isAgg9 (eqK_str (d := 9998) Try.underlying9) (eqFs_leaf (by decide) rfl Try.isAgg9 (eqK_str (d := 9998) Try.underlying9) (eqFs_nil)))
theorem eqD35 : EqD Try.prog 9999 35 [.int .i64, .str, .str, .str, .str, .int .i64, .bool] :=
  eqD_struct (d := 9998) (fs := [⟨ "Kind", 3, 0, false, "", "", 0⟩, ⟨ "Key", 9, 1, false, "", "", 8⟩, ⟨ "Val", 9, 2, false, "", "", 24⟩, ⟨ "Range", 33, 3, false, "", "", 40⟩, ⟨ "Most", 3, 5, false, "", "", 72⟩, ⟨ "Back", 4, 6, false, "", "", 80⟩]) (by kernel_rfl) (by kernel_rfl) (by kernel_rfl) (eqFs_leaf (by decide) rfl Try.isAgg3 (eqK_int (d := 9997) Try.underlying3) (eqFs_leaf (by decide) rfl Try.isAgg9 (eqK_str (d := 9997) Try.underlying9) (eqFs_leaf (by decide) rfl Try.isAgg9 (eqK_str (d := 9997) Try.underlying9) (eqFs_struct (by decide) rfl Try.isAgg33 Try.sizeOf33 rfl eqD33 (ks := [.int .i64, .bool]) rfl (eqFs_leaf (by decide) rfl Try.isAgg3 (eqK_int (d := 9997) Try.underlying3) (eqFs_leaf (by decide) rfl Try.isAgg4 (eqK_bool (d := 9997) Try.underlying4) (eqFs_nil)))))))
theorem eqD35b : EqD Try.prog 10000 35 [.int .i64, .str, .str, .str, .str, .int .i64, .bool] :=
  eqD_struct (d := 9999) (fs := [⟨ "Kind", 3, 0, false, "", "", 0⟩, ⟨ "Key", 9, 1, false, "", "", 8⟩, ⟨ "Val", 9, 2, false, "", "", 24⟩, ⟨ "Range", 33, 3, false, "", "", 40⟩, ⟨ "Most", 3, 5, false, "", "", 72⟩, ⟨ "Back", 4, 6, false, "", "", 80⟩]) (by kernel_rfl) (by kernel_rfl) (by kernel_rfl) (eqFs_leaf (by decide) rfl Try.isAgg3 (eqK_int (d := 9998) Try.underlying3) (eqFs_leaf (by decide) rfl Try.isAgg9 (eqK_str (d := 9998) Try.underlying9) (eqFs_leaf (by decide) rfl Try.isAgg9 (eqK_str (d := 9998) Try.underlying9) (eqFs_struct (by decide) rfl Try.isAgg33 Try.sizeOf33 rfl eqD33b (ks := [.int .i64, .bool]) rfl (eqFs_leaf (by decide) rfl Try.isAgg3 (eqK_int (d := 9998) Try.underlying3) (eqFs_leaf (by decide) rfl Try.isAgg4 (eqK_bool (d := 9998) Try.underlying4) (eqFs_nil)))))))
theorem eqOK33 : EqOK Try.prog 33 [.str, .str] := eqOK_of Try.eqGuardType33 eqD33c
theorem eqOK35 : EqOK Try.prog 35 [.int .i64, .str, .str, .str, .str, .int .i64, .bool] := eqOK_of Try.eqGuardType35 eqD35b

theorem eqOK37 : EqOK Try.prog 37 [.int .i64, .int .i64, .str, .str, .str, .str, .int .i64, .bool] := eqOK_of Try.eqGuardType37 (eqD_struct (d := 9999) (fs := [⟨ "Kind", 3, 0, false, "", "", 0⟩, ⟨ "Ask", 35, 1, false, "", "", 8⟩]) (by kernel_rfl) (by kernel_rfl) (by kernel_rfl) (eqFs_leaf (by decide) rfl Try.isAgg3 (eqK_int (d := 9998) Try.underlying3) (eqFs_struct (by decide) rfl Try.isAgg35 Try.sizeOf35 rfl eqD35 (ks := []) rfl eqFs_nil)))


noncomputable def tyL : List (Nat × TInfo) := [
  (3, { k := .int .i64, size := 1, bytes := 8, zero := .int .i64 0 }),
  (4, { k := .bool, size := 1, bytes := 1, zero := .bool false }),
  (5, { k := .int .u8, size := 1, bytes := 1, zero := .int .u8 0 }),
  (9, { k := .string, size := 1, bytes := 16, zero := .string ⟨#[]⟩ }),
  (22, { k := .slice 3, size := 1, bytes := 24, zero := .slice none 0 0, szs := [1] }),
  (24, { k := .struct [(0, 9), (1, 9)], size := 2, bytes := 32, zero := .agg #[.string ⟨#[]⟩, .string ⟨#[]⟩] }),
  (26, { k := .struct [(0, 3), (1, 9), (2, 9), (3, 24), (5, 3), (6, 4)], size := 7, bytes := 88, zero := .agg #[.int .i64 0, .string ⟨#[]⟩, .string ⟨#[]⟩, .string ⟨#[]⟩, .string ⟨#[]⟩, .int .i64 0, .bool false] }),
  (28, { k := .struct [(0, 3), (1, 26)], size := 8, bytes := 96, zero := .agg #[.int .i64 0, .int .i64 0, .string ⟨#[]⟩, .string ⟨#[]⟩, .string ⟨#[]⟩, .string ⟨#[]⟩, .int .i64 0, .bool false] }),
  (30, { k := .struct [(0, 3), (1, 3), (2, 3), (3, 22), (4, 28)], size := 12, bytes := 144, zero := .agg #[.int .i64 0, .int .i64 0, .int .i64 0, .slice none 0 0, .int .i64 0, .int .i64 0, .string ⟨#[]⟩, .string ⟨#[]⟩, .string ⟨#[]⟩, .string ⟨#[]⟩, .int .i64 0, .bool false], szs := [0, 0, 0, 1, 0, 0, 0, 0, 0, 0, 0, 0] }),
  (33, { k := .struct [(0, 9), (1, 9)], size := 2, bytes := 32, zero := .agg #[.string ⟨#[]⟩, .string ⟨#[]⟩], eqs := some [.str, .str] }),
  (35, { k := .struct [(0, 3), (1, 9), (2, 9), (3, 33), (5, 3), (6, 4)], size := 7, bytes := 88, zero := .agg #[.int .i64 0, .string ⟨#[]⟩, .string ⟨#[]⟩, .string ⟨#[]⟩, .string ⟨#[]⟩, .int .i64 0, .bool false], eqs := some [.int .i64, .str, .str, .str, .str, .int .i64, .bool] }),
  (37, { k := .struct [(0, 3), (1, 35)], size := 8, bytes := 96, zero := .agg #[.int .i64 0, .int .i64 0, .string ⟨#[]⟩, .string ⟨#[]⟩, .string ⟨#[]⟩, .string ⟨#[]⟩, .int .i64 0, .bool false], eqs := some [.int .i64, .int .i64, .str, .str, .str, .str, .int .i64, .bool] }),
  (39, { k := .struct [(0, 3), (1, 3), (2, 3), (3, 22), (4, 37)], size := 12, bytes := 144, zero := .agg #[.int .i64 0, .int .i64 0, .int .i64 0, .slice none 0 0, .int .i64 0, .int .i64 0, .string ⟨#[]⟩, .string ⟨#[]⟩, .string ⟨#[]⟩, .string ⟨#[]⟩, .int .i64 0, .bool false], szs := [0, 0, 0, 1, 0, 0, 0, 0, 0, 0, 0, 0] }),
  (46, { k := .slice 9, size := 1, bytes := 24, zero := .slice none 0 0, szs := [1] }),
  (58, { k := .slice 5, size := 1, bytes := 24, zero := .slice none 0 0, szs := [1] })]
noncomputable abbrev Ty := tyOf tyL
theorem tyOK : TyOK Try.prog Ty := tyOf_ok (by
  simp only [tyL, List.forall_mem_cons]
  refine ⟨⟨Try.underlying3, ⟨Try.t3, by kernel_rfl, rfl, rfl, rfl⟩, nofun⟩, ?_⟩
  refine ⟨⟨Try.underlying4, ⟨Try.t4, by kernel_rfl, rfl, rfl, rfl⟩, nofun⟩, ?_⟩
  refine ⟨⟨Try.underlying5, ⟨Try.t5, by kernel_rfl, rfl, rfl, rfl⟩, nofun⟩, ?_⟩
  refine ⟨⟨Try.underlying9, ⟨Try.t9, by kernel_rfl, rfl, rfl, rfl⟩, nofun⟩, ?_⟩
  refine ⟨⟨Try.underlying22, ⟨Try.t22, by kernel_rfl, rfl, rfl, rfl⟩, nofun⟩, ?_⟩
  refine ⟨⟨⟨_, Try.underlying24, rfl⟩, ⟨Try.t24, by kernel_rfl, rfl, rfl, rfl⟩, nofun⟩, ?_⟩
  refine ⟨⟨⟨_, Try.underlying26, rfl⟩, ⟨Try.t26, by kernel_rfl, rfl, rfl, rfl⟩, nofun⟩, ?_⟩
  refine ⟨⟨⟨_, Try.underlying28, rfl⟩, ⟨Try.t28, by kernel_rfl, rfl, rfl, rfl⟩, nofun⟩, ?_⟩
  refine ⟨⟨⟨_, Try.underlying30, rfl⟩, ⟨Try.t30, by kernel_rfl, rfl, rfl, rfl⟩, nofun⟩, ?_⟩
  refine ⟨⟨⟨_, Try.underlying33, rfl⟩, ⟨Try.t33, by kernel_rfl, rfl, rfl, rfl⟩, fun ks h => by cases h; exact eqOK33⟩, ?_⟩
  refine ⟨⟨⟨_, Try.underlying35, rfl⟩, ⟨Try.t35, by kernel_rfl, rfl, rfl, rfl⟩, fun ks h => by cases h; exact eqOK35⟩, ?_⟩
  refine ⟨⟨⟨_, Try.underlying37, rfl⟩, ⟨Try.t37, by kernel_rfl, rfl, rfl, rfl⟩, fun ks h => by cases h; exact eqOK37⟩, ?_⟩
  refine ⟨⟨⟨_, Try.underlying39, rfl⟩, ⟨Try.t39, by kernel_rfl, rfl, rfl, rfl⟩, nofun⟩, ?_⟩
  refine ⟨⟨Try.underlying46, ⟨Try.t46, by kernel_rfl, rfl, rfl, rfl⟩, nofun⟩, ?_⟩
  refine ⟨⟨Try.underlying58, ⟨Try.t58, by kernel_rfl, rfl, rfl, rfl⟩, nofun⟩, ?_⟩
  exact nofun)
def eStr (s : ByteArray) : List C := [sC s]
def eInt (n : Int) : List C := [iC n]
structure Range where
  lo : ByteArray
  hi : ByteArray
instance : Inhabited Range := ⟨⟨⟨#[]⟩, ⟨#[]⟩⟩⟩
def eRange (x : Range) : List C := [sC x.lo, sC x.hi]
structure Ask where
  kind : Int
  key : ByteArray
  val : ByteArray
  range : Range
  most : Int
  back : Bool
instance : Inhabited Ask := ⟨⟨0, ⟨#[]⟩, ⟨#[]⟩, default, 0, false⟩⟩
def eAsk (x : Ask) : List C := [iC x.kind, sC x.key, sC x.val, sC x.range.lo, sC x.range.hi, iC x.most, bC x.back]
structure CallR where
  kind : Int
  ask : Ask
instance : Inhabited CallR := ⟨⟨0, default⟩⟩
def eCallR (x : CallR) : List C := [iC x.kind, iC x.ask.kind, sC x.ask.key, sC x.ask.val, sC x.ask.range.lo, sC x.ask.range.hi, iC x.ask.most, bC x.ask.back]
structure Step where
  kind : Int
  a : Int
  b : Int
  keep : List Int
  call : CallR
instance : Inhabited Step := ⟨⟨0, 0, 0, [], default⟩⟩
def eStep (x : Step) : List C := [iC x.kind, iC x.a, iC x.b, .sl 1 ((x.keep).map eInt), iC x.call.kind, iC x.call.ask.kind, sC x.call.ask.key, sC x.call.ask.val, sC x.call.ask.range.lo, sC x.call.ask.range.hi, iC x.call.ask.most, bC x.call.ask.back]


theorem mv_size_mk (a : Array UInt8) : (⟨a⟩ : ByteArray).size = a.size := rfl
theorem byteAt_lo (s : ByteArray) (n : Int) : 0 ≤ byteAt s n := by unfold byteAt; split <;> omega
theorem byteAt_hi (s : ByteArray) (n : Int) : byteAt s n < 256 := by
  unfold byteAt
  split
  · rename_i h
    have := (s[n.toNat]'h).toNat_lt
    omega
  · omega
def bytesOf (s : ByteArray) : List Int := (List.range s.size).map fun k => byteAt s ((k : Nat) : Int)
theorem bytesOf_length (s : ByteArray) : (bytesOf s).length = s.size := by simp [bytesOf]
theorem drop_bytes {s : ByteArray} {k : Nat} (h : k < s.size) : (bytesOf s).drop k = byteAt s ((k : Nat) : Int) :: (bytesOf s).drop (k + 1) :=
  drop_of_get (by simp [bytesOf, h])
theorem cat_le {a b : ByteArray} (ha : a.size ≤ 2 ^ 46) (hb : b.size ≤ 2 ^ 46) : a.size + b.size ≤ 140737488355328 := Nat.le_trans (Nat.add_le_add ha hb) (Nat.le_of_ble_eq_true rfl)
theorem app_le {a b : ByteArray} {n : Nat} (ha : a.size ≤ 2 ^ n) (hb : b.size ≤ 2 ^ n) : (a ++ b).size ≤ 2 ^ (n + 1) := by
  rw [ByteArray.size_append, Nat.pow_succ]; omega
theorem cond_le {c : Bool} {a b : ByteArray} {n : Nat} (ha : a.size ≤ n) (hb : b.size ≤ n) : (bif c then a else b).size ≤ n := by
  cases c <;> assumption
theorem le2 {a n m : Nat} (h : a ≤ n) (hb : Nat.ble n (2 ^ m) = true) : a ≤ 2 ^ m := Nat.le_trans h (Nat.le_of_ble_eq_true hb)
theorem lit_le {a : Array UInt8} {m : Nat} (hb : Nat.ble a.size (2 ^ m) = true) : (⟨a⟩ : ByteArray).size ≤ 2 ^ m := Nat.le_of_ble_eq_true hb

def l01Num (n : Int) : Bool := bif (decide (n ≥ 0)) then (decide (n ≤ 1099511627775)) else false
/-- spec.l01Num -/
theorem okl01Num (n : Int) : CallOK Try.prog 11 [iV n] (bV (l01Num n)) [] :=
  callOK tyOK Try.func11 rfl fun w S hS => by
    refine a_seq ?_
    refine a_run [0] tyOK (st1 := mk 9 [(0, iV n)] []) (by kernel_rfl) ?_
    refine a_seq ?_
    refine a_mid (mk 9 [(2, bV (bif (decide (n ≥ 0)) then (decide (n ≤ 1099511627775)) else false))] []) ?_ ?_
    · refine a_ops [0, 1, 2, 3, 4, 5, 6] (by kernel_rfl) ?_
      refine ao_some [0, 1, 2] [3, 4, 5, 6] [0, 5] tyOK (st1 := mk 9 [(0, iV n), (5, bV (decide (n ≥ 0)))] []) (by kernel_rfl) ?_
      rcases Bool.eq_false_or_eq_true (decide (n ≥ 0)) with h1 | h1
      · rw [h1]
        have g1 := h1
        try simp only [decide_eq_true_eq, decide_eq_false_iff_not] at g1
        refine ao_some [3, 4, 5, 6] [] [2] tyOK (st1 := mk 9 [(2, bV (decide (n ≤ 1099511627775)))] []) (by kernel_rfl) ?_
        exact ao_nil (by show _ = _; kernel_rfl)
      · rw [h1]
        have g1 := h1
        try simp only [decide_eq_true_eq, decide_eq_false_iff_not] at g1
        refine ao_some [3, 4, 5, 6] [] [2] tyOK (st1 := mk 9 [(2, bV false)] []) (by kernel_rfl) ?_
        exact ao_nil (by show _ = _; kernel_rfl)
    refine a_ret ?_
    have e : l01Num n = bif (decide (n ≥ 0)) then (decide (n ≤ 1099511627775)) else false := by rw [l01Num]
    exact end_eq (res' := bV (bif (decide (n ≥ 0)) then (decide (n ≤ 1099511627775)) else false)) (by kernel_rfl) (by rw [e] <;> rfl)



def digS (d : Int) : Int := bif (decide (d < 10)) then (IntKind.wrap .u8 (IntKind.wrap .i64 (48 + d))) else (IntKind.wrap .u8 (IntKind.wrap .i64 ((IntKind.wrap .i64 (65 + d)) - 10)))
/-- spec.l01Digit -/
theorem okdigS (d : Int) : CallOK Try.prog 38 [iV d] (.one (.c (.v (.int .u8 (digS d))))) [] :=
  callOK tyOK Try.func38 rfl fun w S hS => by
    refine a_seq ?_
    refine a_run [0] tyOK (st1 := mk 12 [(0, iV d)] []) (by kernel_rfl) ?_
    refine a_seq ?_
    refine a_seq ?_
    refine a_run [0, 4] tyOK (st1 := mk 12 [(0, iV d), (4, bV (decide (d < 10)))] []) (by kernel_rfl) ?_
    refine a_cond (b := decide (d < 10)) (by kernel_rfl) (fun h1 => ?_) (fun h1 => ?_)
    · have g1 := h1
      try simp only [decide_eq_true_eq, decide_eq_false_iff_not] at g1
      refine a_seq ?_
      refine a_run [2] tyOK (st1 := mk 12 [(2, .one (.c (.v (.int .u8 (IntKind.wrap .u8 (IntKind.wrap .i64 (48 + d)))))))] []) (by kernel_rfl) ?_
      refine a_ret ?_
      have e : digS d = IntKind.wrap .u8 (IntKind.wrap .i64 (48 + d)) := by rw [digS]; rw [h1, cond_true]
      exact end_eq (res' := .one (.c (.v (.int .u8 (IntKind.wrap .u8 (IntKind.wrap .i64 (48 + d))))))) (by kernel_rfl) (by rw [e] <;> rfl)
    · have g1 := h1
      try simp only [decide_eq_true_eq, decide_eq_false_iff_not] at g1
      refine a_skip ?_
      refine a_seq ?_
      refine a_run [2] tyOK (st1 := mk 12 [(2, .one (.c (.v (.int .u8 (IntKind.wrap .u8 (IntKind.wrap .i64 ((IntKind.wrap .i64 (65 + d)) - 10)))))))] []) (by kernel_rfl) ?_
      refine a_ret ?_
      have e : digS d = IntKind.wrap .u8 (IntKind.wrap .i64 ((IntKind.wrap .i64 (65 + d)) - 10)) := by rw [digS]; rw [h1, cond_false]
      exact end_eq (res' := .one (.c (.v (.int .u8 (IntKind.wrap .u8 (IntKind.wrap .i64 ((IntKind.wrap .i64 (65 + d)) - 10))))))) (by kernel_rfl) (by rw [e] <;> rfl)


theorem l01_iff (n : Int) : l01Num n = true ↔ 0 ≤ n ∧ n ≤ 1099511627775 := by
  unfold l01Num
  by_cases h1 : n ≥ 0 <;> by_cases h2 : n ≤ 1099511627775 <;> simp [h1, h2] <;> omega
theorem tdiv_small {n : Int} (h0 : 0 ≤ n) (h1 : n ≤ 1099511627775) : IntKind.wrap .i64 (Int.tdiv n 10) = n / 10 := by
  rw [Int.tdiv_eq_ediv_of_nonneg h0, mv_wrap (by omega) (by omega)]
theorem numDec {n : Int} (h1 : l01Num n = true) (h2 : ¬ n < 10) : (IntKind.wrap .i64 (Int.tdiv n 10)).toNat < n.toNat := by
  have := (l01_iff n).1 h1
  rw [tdiv_small this.1 this.2]
  omega
def numText (n : Int) : ByteArray :=
  if h1 : l01Num n = true then
    if h2 : n < 10 then byteB (IntKind.wrap .u8 (IntKind.wrap .i64 (48 + n)))
    else numText (IntKind.wrap .i64 (Int.tdiv n 10)) ++ byteB (IntKind.wrap .u8 (IntKind.wrap .i64 (48 + (Int.tmod n 10))))
  else ⟨#[]⟩
  termination_by n.toNat
  decreasing_by exact numDec h1 h2
theorem numText_le : ∀ (k : Nat) (n : Int), n < 10 ^ (k + 1) → (numText n).size ≤ k + 1
  | 0, n, h => by
    rw [numText]
    split
    · rw [dif_pos (by simpa using h)]; exact Nat.le_refl 1
    · exact Nat.zero_le _
  | k + 1, n, h => by
    rw [numText]
    split
    · rename_i h1
      have := (l01_iff n).1 h1
      split
      · exact Nat.le_add_left 1 _
      · have h3 := numText_le k (IntKind.wrap .i64 (Int.tdiv n 10)) (by rw [tdiv_small this.1 this.2]; rw [Int.pow_succ] at h; omega)
        rw [ByteArray.size_append, byteB_size]
        omega
    · exact Nat.zero_le _
theorem numText_size (n : Int) : (numText n).size ≤ 13 := by
  by_cases h : n ≤ 1099511627775
  · exact numText_le 12 n (by omega)
  · rw [numText, dif_neg (by rw [l01_iff]; omega)]
    exact Nat.zero_le _

/-- spec.NumText -/
theorem okNumTextS_step (n : Int) (ih : ∀ m : Int, m.toNat < n.toNat → CallOK Try.prog 13 [iV m] (sV (numText m)) []) : CallOK Try.prog 13 [iV n] (sV (numText n)) [] :=
  callOK tyOK Try.func13 rfl fun w S hS => by
    refine a_seq ?_
    refine a_run [0] tyOK (st1 := mk 23 [(0, iV n)] []) (by kernel_rfl) ?_
    refine a_seq ?_
    refine a_seq ?_
    refine a_ops [0, 1, 2] (by kernel_rfl) ?_
    refine ao_some [0] [1, 2] [0, 3] tyOK (st1 := mk 23 [(0, iV n), (3, iV n)] []) (by kernel_rfl) ?_
    refine ao_enter (f := 11) (d := 4) (A := [iV n]) (st1 := mk 23 [(0, iV n), (4, bV (l01Num n))] []) [0, 4] (okl01Num n) Try.call11 (by kernel_rfl) (by kernel_rfl) (by kernel_rfl) ?_
    refine ao_some [2] [] [0, 5] tyOK (st1 := mk 23 [(0, iV n), (5, bV (!(l01Num n)))] []) (by kernel_rfl) ?_
    refine ao_nil ?_
    refine a_cond (b := !(l01Num n)) (by kernel_rfl) (fun h1 => ?_) (fun h1 => ?_)
    · have g1 := h1
      try simp only [Bool.not_eq_true, Bool.not_eq_false, Bool.not_eq_true'] at g1
      refine a_seq ?_
      refine a_run [2] tyOK (st1 := mk 23 [(2, sV ((⟨#[]⟩ : ByteArray)))] []) (by kernel_rfl) ?_
      refine a_ret ?_
      have e : numText n = (⟨#[]⟩ : ByteArray) := by
          rw [numText, dif_neg (by simpa using h1)]
      exact end_eq (res' := sV ((⟨#[]⟩ : ByteArray))) (by kernel_rfl) (by rw [e] <;> rfl)
    · have g1 := h1
      try simp only [Bool.not_eq_true, Bool.not_eq_false, Bool.not_eq_true'] at g1
      refine a_skip ?_
      refine a_seq ?_
      refine a_seq ?_
      refine a_run [0, 7] tyOK (st1 := mk 23 [(0, iV n), (7, bV (decide (n < 10)))] []) (by kernel_rfl) ?_
      refine a_cond (b := decide (n < 10)) (by kernel_rfl) (fun h2 => ?_) (fun h2 => ?_)
      · have g2 := h2
        try simp only [decide_eq_true_eq, decide_eq_false_iff_not] at g2
        refine a_seq ?_
        refine a_run [2] tyOK (st1 := mk 23 [(2, sV (byteB (IntKind.wrap .u8 (IntKind.wrap .i64 (48 + n)))))] []) (by kernel_rfl) ?_
        refine a_ret ?_
        have e : numText n = byteB (IntKind.wrap .u8 (IntKind.wrap .i64 (48 + n))) := by
            rw [numText, dif_pos (by simpa using h1), dif_pos g2]
        exact end_eq (res' := sV (byteB (IntKind.wrap .u8 (IntKind.wrap .i64 (48 + n))))) (by kernel_rfl) (by rw [e] <;> rfl)
      · have g2 := h2
        try simp only [decide_eq_true_eq, decide_eq_false_iff_not] at g2
        refine a_skip ?_
        refine a_seq ?_
        refine a_mid (mk 23 [(2, sV ((numText (IntKind.wrap .i64 (Int.tdiv n 10))) ++ (byteB (IntKind.wrap .u8 (IntKind.wrap .i64 (48 + (Int.tmod n 10)))))))] []) ?_ ?_
        · refine a_drawn (n := 11) [] (by kernel_rfl) (by kernel_rfl) ?_
          refine aa_take (fuel := 5) (listed' := #[true, true, false, true, true, true, true, false, false, false, false]) (st' := mk 23 [(14, iV (IntKind.wrap .i64 (Int.tdiv n 10))), (19, .one (.c (.v (.int .u8 (IntKind.wrap .u8 (IntKind.wrap .i64 (48 + (Int.tmod n 10))))))))] []) [0, 1, 3, 4, 5, 6] [14, 19] tyOK (by kernel_rfl) (by kernel_rfl) (by kernel_rfl) ?_
          refine aa_all [2, 7] (by kernel_rfl) rfl ?_
          refine aa_cons ?_ ?_
          · refine aone_enter (listed' := #[true, true, true, true, true, true, true, false, false, false, false]) (f := 13) (d := 15) (A := [iV (IntKind.wrap .i64 (Int.tdiv n 10))]) (st1 := mk 23 [(15, sV (numText (IntKind.wrap .i64 (Int.tdiv n 10)))), (19, .one (.c (.v (.int .u8 (IntKind.wrap .u8 (IntKind.wrap .i64 (48 + (Int.tmod n 10))))))))] []) [15, 19] (ih (IntKind.wrap .i64 (Int.tdiv n 10)) (by exact numDec (by simpa using h1) g2)) Try.call13 (by kernel_rfl) (by kernel_rfl) (by kernel_rfl) (by kernel_rfl) ?_
            refine aa_all [7] (by kernel_rfl) rfl ?_
            refine aa_cons ?_ aa_nil
            refine aone_any (listed' := #[true, true, true, true, true, true, true, true, false, false, false]) (st1 := mk 23 [(15, sV (numText (IntKind.wrap .i64 (Int.tdiv n 10)))), (20, .one (.so [] 20 0 1))] [(20, [.sl 1 ([[.v (.int .u8 (IntKind.wrap .u8 (IntKind.wrap .i64 (48 + (Int.tmod n 10)))))]])])]) [15, 20] tyOK (by kernel_rfl) (by kernel_rfl) ?_
            refine aa_all [8] (by kernel_rfl) rfl ?_
            refine aa_cons ?_ aa_nil
            refine aone_any (listed' := #[true, true, true, true, true, true, true, true, true, false, false]) (st1 := mk 23 [(15, sV (numText (IntKind.wrap .i64 (Int.tdiv n 10)))), (21, sV (byteB (IntKind.wrap .u8 (IntKind.wrap .i64 (48 + (Int.tmod n 10))))))] []) [15, 21] tyOK (by kernel_rfl) (by kernel_rfl) ?_
            refine aa_q (i := 9) (d := 22) (c := ((numText (IntKind.wrap .i64 (Int.tdiv n 10))).size + (byteB (IntKind.wrap .u8 (IntKind.wrap .i64 (48 + (Int.tmod n 10))))).size ≤ 140737488355328)) (tv := sV ((numText (IntKind.wrap .i64 (Int.tdiv n 10))) ++ (byteB (IntKind.wrap .u8 (IntKind.wrap .i64 (48 + (Int.tmod n 10))))))) (listed' := #[true, true, true, true, true, true, true, true, true, true, false]) (st1 := mk 23 [(22, sV ((numText (IntKind.wrap .i64 (Int.tdiv n 10))) ++ (byteB (IntKind.wrap .u8 (IntKind.wrap .i64 (48 + (Int.tmod n 10)))))))] []) [22] tyOK (by kernel_rfl) (by kernel_rfl) (by first | (have h1 := numText_size (IntKind.wrap .i64 (Int.tdiv n 10)); simp only [ByteArray.size_append, mv_size_mk, List.size_toArray, List.length_cons, List.length_nil, byteB_size]; omega) | (have h1 := outSize hR; simp only [ByteArray.size_append, mv_size_mk, List.size_toArray, List.length_cons, List.length_nil, byteB_size]; omega) | (simp only [ByteArray.size_append, mv_size_mk, List.size_toArray, List.length_cons, List.length_nil, byteB_size]; omega)) (by kernel_rfl) (by kernel_rfl) (by kernel_rfl) ?_
            refine aa_take (fuel := 0) (listed' := #[true, true, true, true, true, true, true, true, true, true, true]) (st' := mk 23 [(2, sV ((numText (IntKind.wrap .i64 (Int.tdiv n 10))) ++ (byteB (IntKind.wrap .u8 (IntKind.wrap .i64 (48 + (Int.tmod n 10)))))))] []) [10] [2] tyOK (by kernel_rfl) (by kernel_rfl) (by kernel_rfl) ?_
            refine aa_done (by kernel_rfl) ?_
            show _ = _; kernel_rfl
          refine aa_cons ?_ aa_nil
          refine aone_any (listed' := #[true, true, false, true, true, true, true, true, false, false, false]) (st1 := mk 23 [(14, iV (IntKind.wrap .i64 (Int.tdiv n 10))), (20, .one (.so [] 20 0 1))] [(20, [.sl 1 ([[.v (.int .u8 (IntKind.wrap .u8 (IntKind.wrap .i64 (48 + (Int.tmod n 10)))))]])])]) [14, 20] tyOK (by kernel_rfl) (by kernel_rfl) ?_
          refine aa_all [2, 8] (by kernel_rfl) rfl ?_
          refine aa_cons ?_ ?_
          · refine aone_enter (listed' := #[true, true, true, true, true, true, true, true, false, false, false]) (f := 13) (d := 15) (A := [iV (IntKind.wrap .i64 (Int.tdiv n 10))]) (st1 := mk 23 [(15, sV (numText (IntKind.wrap .i64 (Int.tdiv n 10)))), (20, .one (.so [] 20 0 1))] [(20, [.sl 1 ([[.v (.int .u8 (IntKind.wrap .u8 (IntKind.wrap .i64 (48 + (Int.tmod n 10)))))]])])]) [15, 20] (ih (IntKind.wrap .i64 (Int.tdiv n 10)) (by exact numDec (by simpa using h1) g2)) Try.call13 (by kernel_rfl) (by kernel_rfl) (by kernel_rfl) (by kernel_rfl) ?_
            refine aa_all [8] (by kernel_rfl) rfl ?_
            refine aa_cons ?_ aa_nil
            refine aone_any (listed' := #[true, true, true, true, true, true, true, true, true, false, false]) (st1 := mk 23 [(15, sV (numText (IntKind.wrap .i64 (Int.tdiv n 10)))), (21, sV (byteB (IntKind.wrap .u8 (IntKind.wrap .i64 (48 + (Int.tmod n 10))))))] []) [15, 21] tyOK (by kernel_rfl) (by kernel_rfl) ?_
            refine aa_q (i := 9) (d := 22) (c := ((numText (IntKind.wrap .i64 (Int.tdiv n 10))).size + (byteB (IntKind.wrap .u8 (IntKind.wrap .i64 (48 + (Int.tmod n 10))))).size ≤ 140737488355328)) (tv := sV ((numText (IntKind.wrap .i64 (Int.tdiv n 10))) ++ (byteB (IntKind.wrap .u8 (IntKind.wrap .i64 (48 + (Int.tmod n 10))))))) (listed' := #[true, true, true, true, true, true, true, true, true, true, false]) (st1 := mk 23 [(22, sV ((numText (IntKind.wrap .i64 (Int.tdiv n 10))) ++ (byteB (IntKind.wrap .u8 (IntKind.wrap .i64 (48 + (Int.tmod n 10)))))))] []) [22] tyOK (by kernel_rfl) (by kernel_rfl) (by first | (have h1 := numText_size (IntKind.wrap .i64 (Int.tdiv n 10)); simp only [ByteArray.size_append, mv_size_mk, List.size_toArray, List.length_cons, List.length_nil, byteB_size]; omega) | (have h1 := outSize hR; simp only [ByteArray.size_append, mv_size_mk, List.size_toArray, List.length_cons, List.length_nil, byteB_size]; omega) | (simp only [ByteArray.size_append, mv_size_mk, List.size_toArray, List.length_cons, List.length_nil, byteB_size]; omega)) (by kernel_rfl) (by kernel_rfl) (by kernel_rfl) ?_
            refine aa_take (fuel := 0) (listed' := #[true, true, true, true, true, true, true, true, true, true, true]) (st' := mk 23 [(2, sV ((numText (IntKind.wrap .i64 (Int.tdiv n 10))) ++ (byteB (IntKind.wrap .u8 (IntKind.wrap .i64 (48 + (Int.tmod n 10)))))))] []) [10] [2] tyOK (by kernel_rfl) (by kernel_rfl) (by kernel_rfl) ?_
            refine aa_done (by kernel_rfl) ?_
            show _ = _; kernel_rfl
          refine aa_cons ?_ aa_nil
          refine aone_any (listed' := #[true, true, false, true, true, true, true, true, true, false, false]) (st1 := mk 23 [(14, iV (IntKind.wrap .i64 (Int.tdiv n 10))), (21, sV (byteB (IntKind.wrap .u8 (IntKind.wrap .i64 (48 + (Int.tmod n 10))))))] []) [14, 21] tyOK (by kernel_rfl) (by kernel_rfl) ?_
          refine aa_all [2] (by kernel_rfl) rfl ?_
          refine aa_cons ?_ aa_nil
          refine aone_enter (listed' := #[true, true, true, true, true, true, true, true, true, false, false]) (f := 13) (d := 15) (A := [iV (IntKind.wrap .i64 (Int.tdiv n 10))]) (st1 := mk 23 [(15, sV (numText (IntKind.wrap .i64 (Int.tdiv n 10)))), (21, sV (byteB (IntKind.wrap .u8 (IntKind.wrap .i64 (48 + (Int.tmod n 10))))))] []) [15, 21] (ih (IntKind.wrap .i64 (Int.tdiv n 10)) (by exact numDec (by simpa using h1) g2)) Try.call13 (by kernel_rfl) (by kernel_rfl) (by kernel_rfl) (by kernel_rfl) ?_
          refine aa_q (i := 9) (d := 22) (c := ((numText (IntKind.wrap .i64 (Int.tdiv n 10))).size + (byteB (IntKind.wrap .u8 (IntKind.wrap .i64 (48 + (Int.tmod n 10))))).size ≤ 140737488355328)) (tv := sV ((numText (IntKind.wrap .i64 (Int.tdiv n 10))) ++ (byteB (IntKind.wrap .u8 (IntKind.wrap .i64 (48 + (Int.tmod n 10))))))) (listed' := #[true, true, true, true, true, true, true, true, true, true, false]) (st1 := mk 23 [(22, sV ((numText (IntKind.wrap .i64 (Int.tdiv n 10))) ++ (byteB (IntKind.wrap .u8 (IntKind.wrap .i64 (48 + (Int.tmod n 10)))))))] []) [22] tyOK (by kernel_rfl) (by kernel_rfl) (by first | (have h1 := numText_size (IntKind.wrap .i64 (Int.tdiv n 10)); simp only [ByteArray.size_append, mv_size_mk, List.size_toArray, List.length_cons, List.length_nil, byteB_size]; omega) | (have h1 := outSize hR; simp only [ByteArray.size_append, mv_size_mk, List.size_toArray, List.length_cons, List.length_nil, byteB_size]; omega) | (simp only [ByteArray.size_append, mv_size_mk, List.size_toArray, List.length_cons, List.length_nil, byteB_size]; omega)) (by kernel_rfl) (by kernel_rfl) (by kernel_rfl) ?_
          refine aa_take (fuel := 0) (listed' := #[true, true, true, true, true, true, true, true, true, true, true]) (st' := mk 23 [(2, sV ((numText (IntKind.wrap .i64 (Int.tdiv n 10))) ++ (byteB (IntKind.wrap .u8 (IntKind.wrap .i64 (48 + (Int.tmod n 10)))))))] []) [10] [2] tyOK (by kernel_rfl) (by kernel_rfl) (by kernel_rfl) ?_
          refine aa_done (by kernel_rfl) ?_
          show _ = _; kernel_rfl
        refine a_ret ?_
        have e : numText n = (numText (IntKind.wrap .i64 (Int.tdiv n 10))) ++ (byteB (IntKind.wrap .u8 (IntKind.wrap .i64 (48 + (Int.tmod n 10))))) := by
            rw [numText, dif_pos (by simpa using h1), dif_neg g2]
        exact end_eq (res' := sV ((numText (IntKind.wrap .i64 (Int.tdiv n 10))) ++ (byteB (IntKind.wrap .u8 (IntKind.wrap .i64 (48 + (Int.tmod n 10))))))) (by kernel_rfl) (by rw [e] <;> rfl)

theorem okNumTextS (n : Int) : CallOK Try.prog 13 [iV n] (sV (numText n)) [] := by
  generalize hm : n.toNat = m
  induction m using Nat.strongRecOn generalizing n with
  | _ m ih => exact okNumTextS_step n fun j hj => ih j.toNat (by omega) j rfl

theorem digS_eq (d : Int) : ∃ x, digS d = IntKind.wrap .u8 x := by
  unfold digS
  cases decide (d < 10) <;> exact ⟨_, rfl⟩
theorem u8_lo (x : Int) : 0 ≤ IntKind.wrap .u8 x := by rw [show IntKind.wrap .u8 x = x % 256 from rfl]; omega
theorem u8_hi (x : Int) : IntKind.wrap .u8 x < 256 := by rw [show IntKind.wrap .u8 x = x % 256 from rfl]; omega
theorem digS_lo (d : Int) : 0 ≤ digS d := by obtain ⟨x, h⟩ := digS_eq d; rw [h]; exact u8_lo x
theorem digS_hi (d : Int) : digS d < 256 := by obtain ⟨x, h⟩ := digS_eq d; rw [h]; exact u8_hi x
def q3 (a b : Int) : ByteArray := byteB 37 ++ (byteB a ++ byteB b)
theorem q3_size (a b : Int) : (q3 a b).size = 3 := by simp only [q3, ByteArray.size_append, byteB_size]
theorem rows1 {o : ByteArray} {a : Int} (h0 : 0 ≤ a) (h1 : a < 256) : byteRows o ++ [[.v (.int .u8 a)]] = byteRows (o ++ byteB a) := by
  rw [← byteRows_append, byteRows_byteB h0 h1]
theorem rows3 {o : ByteArray} {a b : Int} (h0 : 0 ≤ a) (h1 : a < 256) (h2 : 0 ≤ b) (h3 : b < 256) : byteRows o ++ [[.v (.int .u8 37)], [.v (.int .u8 a)], [.v (.int .u8 b)]] = byteRows (o ++ q3 a b) := by
  rw [q3, ← byteRows_append, ← byteRows_append, ← byteRows_append, byteRows_byteB h0 h1, byteRows_byteB h2 h3, byteRows_byteB (by decide) (by decide)]
  rfl
def plainB (b : Int) : Bool := bif decide (b ≥ 33) then bif decide (b ≤ 126) then bif (b != 34) then (b != 37) else false else false else false
def quoteB (b : Int) : ByteArray := bif plainB b then byteB b else q3 (digS (IntKind.wrap .i64 (Int.tdiv (IntKind.wrap .i64 b) 16))) (digS (Int.tmod (IntKind.wrap .i64 b) 16))
def quoteL : List Int → ByteArray → ByteArray
  | [], o => o
  | b :: bs, o => quoteL bs (o ++ quoteB b)
def quote (s : ByteArray) : ByteArray := bif decide ((s.size : Int) > 4096) then ⟨#[]⟩ else quoteL (bytesOf s) (byteB 34) ++ byteB 34
theorem quoteB_size (b : Int) : (quoteB b).size ≤ 3 := by
  unfold quoteB
  cases plainB b
  · rw [cond_false, q3_size]; exact Nat.le_refl 3
  · rw [cond_true, byteB_size]; decide
theorem quoteL_size : ∀ (l : List Int) (o : ByteArray), (quoteL l o).size ≤ o.size + 3 * l.length
  | [], o => by simp [quoteL]
  | b :: bs, o => by
    have h1 := quoteL_size bs (o ++ quoteB b)
    have h2 := quoteB_size b
    rw [ByteArray.size_append] at h1
    rw [quoteL, List.length_cons]
    omega
theorem quote_size (s : ByteArray) : (quote s).size ≤ 12290 := by
  unfold quote
  by_cases h : (s.size : Int) > 4096
  · rw [decide_eq_true h, cond_true]; exact Nat.zero_le _
  · rw [decide_eq_false h, cond_false, ByteArray.size_append, byteB_size]
    have h1 := quoteL_size (bytesOf s) (byteB 34)
    rw [bytesOf_length, byteB_size] at h1
    omega

structure L26_1 (s : ByteArray) where
  k : Nat
  o : ByteArray
  inv : k ≤ s.size ∧ s.size ≤ 4096 ∧ o.size ≤ 3 * k + 1 ∧ quoteL ((bytesOf s).drop k) o = quoteL (bytesOf s) (byteB 34)

/-- spec.Quote -/
theorem okQuoteS (s : ByteArray) : CallOK Try.prog 26 [sV s] (sV (quote s)) [] :=
  callOK tyOK Try.func26 rfl fun w S hS => by
    refine a_seq ?_
    refine a_run [0] tyOK (st1 := mk 52 [(0, sV s)] []) (by kernel_rfl) ?_
    refine a_seq ?_
    refine a_seq ?_
    refine a_run [0, 8] tyOK (st1 := mk 52 [(0, sV s), (8, bV (decide (((s.size : Int)) > 4096)))] []) (by kernel_rfl) ?_
    refine a_cond (b := decide (((s.size : Int)) > 4096)) (by kernel_rfl) (fun h1 => ?_) (fun h1 => ?_)
    · have g1 := h1
      try simp only [decide_eq_true_eq, decide_eq_false_iff_not] at g1
      refine a_seq ?_
      refine a_run [2] tyOK (st1 := mk 52 [(2, sV ((⟨#[]⟩ : ByteArray)))] []) (by kernel_rfl) ?_
      refine a_ret ?_
      have e : quote s = (⟨#[]⟩ : ByteArray) := by
          rw [quote, h1, cond_true]
      exact end_eq (res' := sV ((⟨#[]⟩ : ByteArray))) (by kernel_rfl) (by rw [e] <;> rfl)
    · have g1 := h1
      try simp only [decide_eq_true_eq, decide_eq_false_iff_not] at g1
      refine a_skip ?_
      refine a_seq ?_
      refine a_run [0, 3] tyOK (st1 := mk 52 [(0, sV s), (3, .one (.so [] 9 0 1))] [(9, [.sl 1 ([[.v (.int .u8 34)]])])]) (by kernel_rfl) ?_
      refine a_seq ?_
      refine a_seq ?_
      refine a_run [0, 3, 4] tyOK (st1 := mk 52 [(0, sV s), (3, .one (.so [] 9 0 1)), (4, iV 0)] [(9, [.sl 1 ([[.v (.int .u8 34)]])])]) (by kernel_rfl) ?_
      refine a_block ?_
      refine a_keep [0, 3, 4] ?_
      refine a_loop (ι := L26_1 s) (fun ⟨k, o, _⟩ => mk 52 [(0, sV s), (3, .one (.so [] 9 0 o.size)), (4, iV (((k : Nat) : Int)))] [(9, [.sl 1 (byteRows o)])]) (fun ⟨k, o, _⟩ => s.size - k) ⟨0, (byteB 34), Nat.zero_le _, by omega, by rw [byteB_size]; omega, rfl⟩ (by kernel_rfl) ?_
      rintro ⟨k, o, hI⟩
      obtain ⟨hk, hs, ho, hR⟩ := hI
      show AWp _ _ _ _ (mk 52 [(0, sV s), (3, .one (.so [] 9 0 o.size)), (4, iV (((k : Nat) : Int)))] [(9, [.sl 1 (byteRows o)])])
      refine a_seq ?_
      refine a_seq ?_
      refine a_run [0, 3, 4, 13] tyOK (st1 := mk 52 [(0, sV s), (3, .one (.so [] 9 0 o.size)), (4, iV (((k : Nat) : Int))), (13, bV (decide ((((k : Nat) : Int)) < ((s.size : Int)))))] [(9, [.sl 1 (byteRows o)])]) (by kernel_rfl) ?_
      refine a_cond (b := decide ((((k : Nat) : Int)) < ((s.size : Int)))) (by kernel_rfl) (fun h2 => ?_) (fun h2 => ?_)
      · have g2 := h2
        try simp only [decide_eq_true_eq, decide_eq_false_iff_not] at g2
        refine a_skip ?_
        refine a_seq ?_
        refine a_block ?_
        refine a_seq ?_
        refine a_ops [0, 1, 2, 3] (by kernel_rfl) ?_
        refine ao_some [0, 1] [2, 3] [0, 3, 4, 16, 17] tyOK (st1 := mk 52 [(0, sV s), (3, .one (.so [] 9 0 o.size)), (4, iV (((k : Nat) : Int))), (16, sV s), (17, iV (((k : Nat) : Int)))] [(9, [.sl 1 (byteRows o)])]) (by kernel_rfl) ?_
        refine ao_q (d := 18) (c := (0 ≤ (((k : Nat) : Int)) ∧ (((k : Nat) : Int)) < (s.size : Int))) (tv := .one (.c (.v (.int .u8 (byteAt s (((k : Nat) : Int))))))) (st1 := mk 52 [(0, sV s), (3, .one (.so [] 9 0 o.size)), (4, iV (((k : Nat) : Int))), (18, .one (.c (.v (.int .u8 (byteAt s (((k : Nat) : Int)))))))] [(9, [.sl 1 (byteRows o)])]) [0, 3, 4, 18] tyOK (by kernel_rfl) (by first | omega | exact figHi (byteAt_lo _ _) (byteAt_hi _ _) | exact figLo (byteAt_lo _ _) (byteAt_hi _ _)) (by kernel_rfl) ?_
        refine ao_some [3] [] [0, 3, 4, 5] tyOK (st1 := mk 52 [(0, sV s), (3, .one (.so [] 9 0 o.size)), (4, iV (((k : Nat) : Int))), (5, .one (.c (.v (.int .u8 (byteAt s (((k : Nat) : Int)))))))] [(9, [.sl 1 (byteRows o)])]) (by kernel_rfl) ?_
        refine ao_nil ?_
        refine a_seq ?_
        refine a_mid (mk 52 [(0, sV s), (3, .one (.so [] 9 0 o.size)), (4, iV (((k : Nat) : Int))), (5, .one (.c (.v (.int .u8 (byteAt s (((k : Nat) : Int))))))), (32, bV (bif (decide ((byteAt s (((k : Nat) : Int))) ≥ 33)) then (bif (decide ((byteAt s (((k : Nat) : Int))) ≤ 126)) then (bif (((byteAt s (((k : Nat) : Int))) != 34)) then (((byteAt s (((k : Nat) : Int))) != 37)) else false) else false) else false))] [(9, [.sl 1 (byteRows o)])]) ?_ ?_
        · refine a_ops [0, 1, 2, 3, 4, 5, 6, 7, 8, 9, 10, 11, 12, 13] (by kernel_rfl) ?_
          refine ao_some [0, 1, 2] [3, 4, 5, 6, 7, 8, 9, 10, 11, 12, 13] [0, 3, 4, 5, 21] tyOK (st1 := mk 52 [(0, sV s), (3, .one (.so [] 9 0 o.size)), (4, iV (((k : Nat) : Int))), (5, .one (.c (.v (.int .u8 (byteAt s (((k : Nat) : Int))))))), (21, bV (decide ((byteAt s (((k : Nat) : Int))) ≥ 33)))] [(9, [.sl 1 (byteRows o)])]) (by kernel_rfl) ?_
          rcases Bool.eq_false_or_eq_true (decide ((byteAt s (((k : Nat) : Int))) ≥ 33)) with h3 | h3
          · rw [h3]
            have g3 := h3
            try simp only [decide_eq_true_eq, decide_eq_false_iff_not] at g3
            refine ao_some [3, 4, 5, 6] [7, 8, 9, 10, 11, 12, 13] [0, 3, 4, 5, 25] tyOK (st1 := mk 52 [(0, sV s), (3, .one (.so [] 9 0 o.size)), (4, iV (((k : Nat) : Int))), (5, .one (.c (.v (.int .u8 (byteAt s (((k : Nat) : Int))))))), (25, bV (decide ((byteAt s (((k : Nat) : Int))) ≤ 126)))] [(9, [.sl 1 (byteRows o)])]) (by kernel_rfl) ?_
            rcases Bool.eq_false_or_eq_true (decide ((byteAt s (((k : Nat) : Int))) ≤ 126)) with h4 | h4
            · rw [h4]
              have g4 := h4
              try simp only [decide_eq_true_eq, decide_eq_false_iff_not] at g4
              refine ao_some [7, 8, 9, 10] [11, 12, 13] [0, 3, 4, 5, 29] tyOK (st1 := mk 52 [(0, sV s), (3, .one (.so [] 9 0 o.size)), (4, iV (((k : Nat) : Int))), (5, .one (.c (.v (.int .u8 (byteAt s (((k : Nat) : Int))))))), (29, bV (((byteAt s (((k : Nat) : Int))) != 34)))] [(9, [.sl 1 (byteRows o)])]) (by kernel_rfl) ?_
              rcases Bool.eq_false_or_eq_true (((byteAt s (((k : Nat) : Int))) != 34)) with h5 | h5
              · rw [h5]
                have g5 := h5
                try simp only [bne_iff_ne, bne_eq_false_iff_eq, ne_eq] at g5
                refine ao_some [11, 12, 13] [] [0, 3, 4, 5, 32] tyOK (st1 := mk 52 [(0, sV s), (3, .one (.so [] 9 0 o.size)), (4, iV (((k : Nat) : Int))), (5, .one (.c (.v (.int .u8 (byteAt s (((k : Nat) : Int))))))), (32, bV (((byteAt s (((k : Nat) : Int))) != 37)))] [(9, [.sl 1 (byteRows o)])]) (by kernel_rfl) ?_
                exact ao_nil (by show _ = _; kernel_rfl)
              · rw [h5]
                have g5 := h5
                try simp only [bne_iff_ne, bne_eq_false_iff_eq, ne_eq] at g5
                refine ao_some [11, 12, 13] [] [0, 3, 4, 5, 32] tyOK (st1 := mk 52 [(0, sV s), (3, .one (.so [] 9 0 o.size)), (4, iV (((k : Nat) : Int))), (5, .one (.c (.v (.int .u8 (byteAt s (((k : Nat) : Int))))))), (32, bV false)] [(9, [.sl 1 (byteRows o)])]) (by kernel_rfl) ?_
                exact ao_nil (by show _ = _; kernel_rfl)
            · rw [h4]
              have g4 := h4
              try simp only [decide_eq_true_eq, decide_eq_false_iff_not] at g4
              refine ao_some [7, 8, 9, 10, 11, 12, 13] [] [0, 3, 4, 5, 32] tyOK (st1 := mk 52 [(0, sV s), (3, .one (.so [] 9 0 o.size)), (4, iV (((k : Nat) : Int))), (5, .one (.c (.v (.int .u8 (byteAt s (((k : Nat) : Int))))))), (32, bV false)] [(9, [.sl 1 (byteRows o)])]) (by kernel_rfl) ?_
              exact ao_nil (by show _ = _; kernel_rfl)
          · rw [h3]
            have g3 := h3
            try simp only [decide_eq_true_eq, decide_eq_false_iff_not] at g3
            refine ao_some [3, 4, 5, 6, 7, 8, 9, 10, 11, 12, 13] [] [0, 3, 4, 5, 32] tyOK (st1 := mk 52 [(0, sV s), (3, .one (.so [] 9 0 o.size)), (4, iV (((k : Nat) : Int))), (5, .one (.c (.v (.int .u8 (byteAt s (((k : Nat) : Int))))))), (32, bV false)] [(9, [.sl 1 (byteRows o)])]) (by kernel_rfl) ?_
            exact ao_nil (by show _ = _; kernel_rfl)
        refine a_cond (b := bif (decide ((byteAt s (((k : Nat) : Int))) ≥ 33)) then (bif (decide ((byteAt s (((k : Nat) : Int))) ≤ 126)) then (bif (((byteAt s (((k : Nat) : Int))) != 34)) then (((byteAt s (((k : Nat) : Int))) != 37)) else false) else false) else false) (by kernel_rfl) (fun h6 => ?_) (fun h6 => ?_)
        · have g6 := h6
          try simp only [decide_eq_true_eq, decide_eq_false_iff_not, bne_iff_ne, bne_eq_false_iff_eq, ne_eq] at g6
          refine a_ops [0, 1, 2, 3, 4] (by kernel_rfl) ?_
          refine ao_some [0, 1, 2] [3, 4] [0, 4, 33, 35] tyOK (st1 := mk 52 [(0, sV s), (4, iV (((k : Nat) : Int))), (33, .one (.so [] 9 0 o.size)), (35, .one (.so [] 35 0 1))] [(9, [.sl 1 (byteRows o)]), (35, [.sl 1 ([[.v (.int .u8 (byteAt s (((k : Nat) : Int))))]])])]) (by kernel_rfl) ?_
          refine ao_append (d := 36) (n := o.size) (n' := ((o ++ byteB (byteAt s ((k : Nat) : Int))).size)) (bytes := 1) (size := 1) (src := (some ([], 9, 0))) (rows := byteRows o) (tx := .one (.so [] 35 0 1)) (new := [[.v (.int .u8 (byteAt s (((k : Nat) : Int))))]]) (rows' := byteRows (o ++ byteB (byteAt s ((k : Nat) : Int)))) (st1 := mk 52 [(0, sV s), (4, iV (((k : Nat) : Int))), (36, .one (.so [] 36 0 ((o ++ byteB (byteAt s ((k : Nat) : Int))).size)))] [(36, [.sl 1 (byteRows (o ++ byteB (byteAt s ((k : Nat) : Int))))])]) [0, 4, 36] tyOK (by kernel_rfl) (by kernel_rfl) (byteRows_length _) (by rw [byteRows_length]; simp only [List.length_cons, List.length_nil]; omega) (by kernel_rfl) (by exact rows1 (byteAt_lo _ _) (byteAt_hi _ _)) (by rw [byteRows_length, ByteArray.size_append]; rfl) (by kernel_rfl) ?_
          refine ao_some [4] [] [0, 3, 4] tyOK (st1 := mk 52 [(0, sV s), (3, .one (.so [] 36 0 ((o ++ byteB (byteAt s ((k : Nat) : Int))).size))), (4, iV (((k : Nat) : Int)))] [(36, [.sl 1 (byteRows (o ++ byteB (byteAt s ((k : Nat) : Int))))])]) (by kernel_rfl) ?_
          refine ao_nil ?_
          refine a_rename 36 9 3 [0, 3, 4] (st1 := mk 52 [(0, sV s), (3, .one (.so [] 9 0 ((o ++ byteB (byteAt s ((k : Nat) : Int))).size))), (4, iV (((k : Nat) : Int)))] [(9, [.sl 1 (byteRows (o ++ byteB (byteAt s ((k : Nat) : Int))))])]) (by kernel_rfl) ?_
          refine a_run [0, 3, 4] tyOK (st1 := mk 52 [(0, sV s), (3, .one (.so [] 9 0 ((o ++ byteB (byteAt s ((k : Nat) : Int))).size))), (4, iV (IntKind.wrap .i64 ((((k : Nat) : Int)) + 1)))] [(9, [.sl 1 (byteRows (o ++ byteB (byteAt s ((k : Nat) : Int))))])]) (by kernel_rfl) ?_
          refine ⟨⟨(k + 1), (o ++ byteB (byteAt s ((k : Nat) : Int))), ?_⟩, ?_, ?_⟩
          · exact ⟨by omega, hs, by rw [ByteArray.size_append, byteB_size]; omega, by rw [← hR, drop_bytes (k := k) (by omega), quoteL, quoteB, show plainB _ = true from h6, cond_true]⟩
          · exact (show _ = mk 52 [(0, sV s), (3, .one (.so [] 9 0 ((o ++ byteB (byteAt s ((k : Nat) : Int))).size))), (4, iV (IntKind.wrap .i64 ((((k : Nat) : Int)) + 1)))] [(9, [.sl 1 (byteRows (o ++ byteB (byteAt s ((k : Nat) : Int))))])] by kernel_rfl).trans (by rw [mv_wrap (n := (k : Int) + 1) (by omega) (by omega)]; rfl)
          · dsimp only; omega
        · have g6 := h6
          try simp only [decide_eq_true_eq, decide_eq_false_iff_not, bne_iff_ne, bne_eq_false_iff_eq, ne_eq] at g6
          refine a_ops [0, 1, 2, 3, 4, 5, 6, 7, 8, 9, 10, 11] (by kernel_rfl) ?_
          refine ao_some [0, 1, 2, 3] [4, 5, 6, 7, 8, 9, 10, 11] [0, 4, 5, 37, 40] tyOK (st1 := mk 52 [(0, sV s), (4, iV (((k : Nat) : Int))), (5, .one (.c (.v (.int .u8 (byteAt s (((k : Nat) : Int))))))), (37, .one (.so [] 9 0 o.size)), (40, iV (IntKind.wrap .i64 (Int.tdiv (IntKind.wrap .i64 (byteAt s (((k : Nat) : Int)))) 16)))] [(9, [.sl 1 (byteRows o)])]) (by kernel_rfl) ?_
          refine ao_enter (f := 38) (d := 41) (A := [iV (IntKind.wrap .i64 (Int.tdiv (IntKind.wrap .i64 (byteAt s (((k : Nat) : Int)))) 16))]) (st1 := mk 52 [(0, sV s), (4, iV (((k : Nat) : Int))), (5, .one (.c (.v (.int .u8 (byteAt s (((k : Nat) : Int))))))), (37, .one (.so [] 9 0 o.size)), (41, .one (.c (.v (.int .u8 (digS (IntKind.wrap .i64 (Int.tdiv (IntKind.wrap .i64 (byteAt s (((k : Nat) : Int)))) 16)))))))] [(9, [.sl 1 (byteRows o)])]) [0, 4, 5, 37, 41] (okdigS (IntKind.wrap .i64 (Int.tdiv (IntKind.wrap .i64 (byteAt s (((k : Nat) : Int)))) 16))) Try.call38 (by kernel_rfl) (by kernel_rfl) (by kernel_rfl) ?_
          refine ao_some [5, 6, 7] [8, 9, 10, 11] [0, 4, 37, 41, 44] tyOK (st1 := mk 52 [(0, sV s), (4, iV (((k : Nat) : Int))), (37, .one (.so [] 9 0 o.size)), (41, .one (.c (.v (.int .u8 (digS (IntKind.wrap .i64 (Int.tdiv (IntKind.wrap .i64 (byteAt s (((k : Nat) : Int)))) 16))))))), (44, iV (Int.tmod (IntKind.wrap .i64 (byteAt s (((k : Nat) : Int)))) 16))] [(9, [.sl 1 (byteRows o)])]) (by kernel_rfl) ?_
          refine ao_enter (f := 38) (d := 45) (A := [iV (Int.tmod (IntKind.wrap .i64 (byteAt s (((k : Nat) : Int)))) 16)]) (st1 := mk 52 [(0, sV s), (4, iV (((k : Nat) : Int))), (37, .one (.so [] 9 0 o.size)), (41, .one (.c (.v (.int .u8 (digS (IntKind.wrap .i64 (Int.tdiv (IntKind.wrap .i64 (byteAt s (((k : Nat) : Int)))) 16))))))), (45, .one (.c (.v (.int .u8 (digS (Int.tmod (IntKind.wrap .i64 (byteAt s (((k : Nat) : Int)))) 16))))))] [(9, [.sl 1 (byteRows o)])]) [0, 4, 37, 41, 45] (okdigS (Int.tmod (IntKind.wrap .i64 (byteAt s (((k : Nat) : Int)))) 16)) Try.call38 (by kernel_rfl) (by kernel_rfl) (by kernel_rfl) ?_
          refine ao_some [9] [10, 11] [0, 4, 37, 46] tyOK (st1 := mk 52 [(0, sV s), (4, iV (((k : Nat) : Int))), (37, .one (.so [] 9 0 o.size)), (46, .one (.so [] 46 0 3))] [(9, [.sl 1 (byteRows o)]), (46, [.sl 1 ([[.v (.int .u8 37)], [.v (.int .u8 (digS (IntKind.wrap .i64 (Int.tdiv (IntKind.wrap .i64 (byteAt s (((k : Nat) : Int)))) 16))))], [.v (.int .u8 (digS (Int.tmod (IntKind.wrap .i64 (byteAt s (((k : Nat) : Int)))) 16)))]])])]) (by kernel_rfl) ?_
          refine ao_append (d := 47) (n := o.size) (n' := ((o ++ q3 (digS (IntKind.wrap .i64 (Int.tdiv (IntKind.wrap .i64 (byteAt s ((k : Nat) : Int))) 16))) (digS (Int.tmod (IntKind.wrap .i64 (byteAt s ((k : Nat) : Int))) 16))).size)) (bytes := 1) (size := 1) (src := (some ([], 9, 0))) (rows := byteRows o) (tx := .one (.so [] 46 0 3)) (new := [[.v (.int .u8 37)], [.v (.int .u8 (digS (IntKind.wrap .i64 (Int.tdiv (IntKind.wrap .i64 (byteAt s (((k : Nat) : Int)))) 16))))], [.v (.int .u8 (digS (Int.tmod (IntKind.wrap .i64 (byteAt s (((k : Nat) : Int)))) 16)))]]) (rows' := byteRows (o ++ q3 (digS (IntKind.wrap .i64 (Int.tdiv (IntKind.wrap .i64 (byteAt s ((k : Nat) : Int))) 16))) (digS (Int.tmod (IntKind.wrap .i64 (byteAt s ((k : Nat) : Int))) 16)))) (st1 := mk 52 [(0, sV s), (4, iV (((k : Nat) : Int))), (47, .one (.so [] 47 0 ((o ++ q3 (digS (IntKind.wrap .i64 (Int.tdiv (IntKind.wrap .i64 (byteAt s ((k : Nat) : Int))) 16))) (digS (Int.tmod (IntKind.wrap .i64 (byteAt s ((k : Nat) : Int))) 16))).size)))] [(47, [.sl 1 (byteRows (o ++ q3 (digS (IntKind.wrap .i64 (Int.tdiv (IntKind.wrap .i64 (byteAt s ((k : Nat) : Int))) 16))) (digS (Int.tmod (IntKind.wrap .i64 (byteAt s ((k : Nat) : Int))) 16))))])]) [0, 4, 47] tyOK (by kernel_rfl) (by kernel_rfl) (byteRows_length _) (by rw [byteRows_length]; simp only [List.length_cons, List.length_nil]; omega) (by kernel_rfl) (by exact rows3 (by first | exact byteAt_lo _ _ | exact digS_lo _) (by first | exact byteAt_hi _ _ | exact digS_hi _) (by first | exact byteAt_lo _ _ | exact digS_lo _) (by first | exact byteAt_hi _ _ | exact digS_hi _)) (by rw [byteRows_length, ByteArray.size_append]; rfl) (by kernel_rfl) ?_
          refine ao_some [11] [] [0, 3, 4] tyOK (st1 := mk 52 [(0, sV s), (3, .one (.so [] 47 0 ((o ++ q3 (digS (IntKind.wrap .i64 (Int.tdiv (IntKind.wrap .i64 (byteAt s ((k : Nat) : Int))) 16))) (digS (Int.tmod (IntKind.wrap .i64 (byteAt s ((k : Nat) : Int))) 16))).size))), (4, iV (((k : Nat) : Int)))] [(47, [.sl 1 (byteRows (o ++ q3 (digS (IntKind.wrap .i64 (Int.tdiv (IntKind.wrap .i64 (byteAt s ((k : Nat) : Int))) 16))) (digS (Int.tmod (IntKind.wrap .i64 (byteAt s ((k : Nat) : Int))) 16))))])]) (by kernel_rfl) ?_
          refine ao_nil ?_
          refine a_rename 47 9 3 [0, 3, 4] (st1 := mk 52 [(0, sV s), (3, .one (.so [] 9 0 ((o ++ q3 (digS (IntKind.wrap .i64 (Int.tdiv (IntKind.wrap .i64 (byteAt s ((k : Nat) : Int))) 16))) (digS (Int.tmod (IntKind.wrap .i64 (byteAt s ((k : Nat) : Int))) 16))).size))), (4, iV (((k : Nat) : Int)))] [(9, [.sl 1 (byteRows (o ++ q3 (digS (IntKind.wrap .i64 (Int.tdiv (IntKind.wrap .i64 (byteAt s ((k : Nat) : Int))) 16))) (digS (Int.tmod (IntKind.wrap .i64 (byteAt s ((k : Nat) : Int))) 16))))])]) (by kernel_rfl) ?_
          refine a_run [0, 3, 4] tyOK (st1 := mk 52 [(0, sV s), (3, .one (.so [] 9 0 ((o ++ q3 (digS (IntKind.wrap .i64 (Int.tdiv (IntKind.wrap .i64 (byteAt s ((k : Nat) : Int))) 16))) (digS (Int.tmod (IntKind.wrap .i64 (byteAt s ((k : Nat) : Int))) 16))).size))), (4, iV (IntKind.wrap .i64 ((((k : Nat) : Int)) + 1)))] [(9, [.sl 1 (byteRows (o ++ q3 (digS (IntKind.wrap .i64 (Int.tdiv (IntKind.wrap .i64 (byteAt s ((k : Nat) : Int))) 16))) (digS (Int.tmod (IntKind.wrap .i64 (byteAt s ((k : Nat) : Int))) 16))))])]) (by kernel_rfl) ?_
          refine ⟨⟨(k + 1), (o ++ q3 (digS (IntKind.wrap .i64 (Int.tdiv (IntKind.wrap .i64 (byteAt s ((k : Nat) : Int))) 16))) (digS (Int.tmod (IntKind.wrap .i64 (byteAt s ((k : Nat) : Int))) 16))), ?_⟩, ?_, ?_⟩
          · exact ⟨by omega, hs, by rw [ByteArray.size_append, q3_size]; omega, by rw [← hR, drop_bytes (k := k) (by omega), quoteL, quoteB, show plainB _ = false from h6, cond_false]⟩
          · exact (show _ = mk 52 [(0, sV s), (3, .one (.so [] 9 0 ((o ++ q3 (digS (IntKind.wrap .i64 (Int.tdiv (IntKind.wrap .i64 (byteAt s ((k : Nat) : Int))) 16))) (digS (Int.tmod (IntKind.wrap .i64 (byteAt s ((k : Nat) : Int))) 16))).size))), (4, iV (IntKind.wrap .i64 ((((k : Nat) : Int)) + 1)))] [(9, [.sl 1 (byteRows (o ++ q3 (digS (IntKind.wrap .i64 (Int.tdiv (IntKind.wrap .i64 (byteAt s ((k : Nat) : Int))) 16))) (digS (Int.tmod (IntKind.wrap .i64 (byteAt s ((k : Nat) : Int))) 16))))])] by kernel_rfl).trans (by rw [mv_wrap (n := (k : Int) + 1) (by omega) (by omega)]; rfl)
          · dsimp only; omega
      · have g2 := h2
        try simp only [decide_eq_true_eq, decide_eq_false_iff_not] at g2
        refine a_exit ?_
        refine a_seq ?_
        refine a_ops [0, 1, 2, 3, 4] (by kernel_rfl) ?_
        refine ao_some [0, 1] [2, 3, 4] [48, 49] tyOK (st1 := mk 52 [(48, .one (.so [] 9 0 o.size)), (49, .one (.so [] 49 0 1))] [(9, [.sl 1 (byteRows o)]), (49, [.sl 1 ([[.v (.int .u8 34)]])])]) (by kernel_rfl) ?_
        refine ao_append (d := 50) (n := o.size) (n' := ((o ++ byteB 34).size)) (bytes := 1) (size := 1) (src := (some ([], 9, 0))) (rows := byteRows o) (tx := .one (.so [] 49 0 1)) (new := [[.v (.int .u8 34)]]) (rows' := byteRows (o ++ byteB 34)) (st1 := mk 52 [(50, .one (.so [] 50 0 ((o ++ byteB 34).size)))] [(50, [.sl 1 (byteRows (o ++ byteB 34))])]) [50] tyOK (by kernel_rfl) (by kernel_rfl) (byteRows_length _) (by rw [byteRows_length]; simp only [List.length_cons, List.length_nil]; omega) (by kernel_rfl) (by exact rows1 (by decide) (by decide)) (by rw [byteRows_length, ByteArray.size_append]; rfl) (by kernel_rfl) ?_
        refine ao_string (d := 51) (n := ((o ++ byteB 34).size)) (rows := byteRows (o ++ byteB 34)) (s := (o ++ byteB 34)) (st1 := mk 52 [(51, sV (o ++ byteB 34))] []) [51] tyOK (by kernel_rfl) (byteRows_length _) rfl (by kernel_rfl) ?_
        refine ao_some [4] [] [2] tyOK (st1 := mk 52 [(2, sV (o ++ byteB 34))] []) (by kernel_rfl) ?_
        refine ao_nil ?_
        refine a_ret ?_
        have e : quote s = o ++ byteB 34 := by
            rw [quote, h1, cond_false, ← hR, List.drop_eq_nil_of_le (by rw [bytesOf_length]; omega), quoteL]
        exact end_eq (res' := sV (o ++ byteB 34)) (by kernel_rfl) (by rw [e] <;> rfl)



def within (x : Int) (lo : Int) (hi : Int) : Bool := bif (decide (x ≥ lo)) then (decide (x ≤ hi)) else false
/-- impl.within -/
theorem okwithin (x : Int) (lo : Int) (hi : Int) : CallOK Try.prog 29 [iV x, iV lo, iV hi] (bV (within x lo hi)) [] :=
  callOK tyOK Try.func29 rfl fun w S hS => by
    refine a_seq ?_
    refine a_run [0, 1, 2] tyOK (st1 := mk 15 [(0, iV x), (1, iV lo), (2, iV hi)] []) (by kernel_rfl) ?_
    refine a_seq ?_
    refine a_mid (mk 15 [(6, bV (bif (decide (x ≥ lo)) then (decide (x ≤ hi)) else false))] []) ?_ ?_
    · refine a_ops [0, 1, 2, 3, 4, 5, 6, 7, 8] (by kernel_rfl) ?_
      refine ao_some [0, 1, 2, 3] [4, 5, 6, 7, 8] [0, 2, 10] tyOK (st1 := mk 15 [(0, iV x), (2, iV hi), (10, bV (decide (x ≥ lo)))] []) (by kernel_rfl) ?_
      rcases Bool.eq_false_or_eq_true (decide (x ≥ lo)) with h1 | h1
      · rw [h1]
        have g1 := h1
        try simp only [decide_eq_true_eq, decide_eq_false_iff_not] at g1
        refine ao_some [4, 5, 6, 7, 8] [] [6] tyOK (st1 := mk 15 [(6, bV (decide (x ≤ hi)))] []) (by kernel_rfl) ?_
        exact ao_nil (by show _ = _; kernel_rfl)
      · rw [h1]
        have g1 := h1
        try simp only [decide_eq_true_eq, decide_eq_false_iff_not] at g1
        refine ao_some [4, 5, 6, 7, 8] [] [6] tyOK (st1 := mk 15 [(6, bV false)] []) (by kernel_rfl) ?_
        exact ao_nil (by show _ = _; kernel_rfl)
    refine a_ret ?_
    have e : within x lo hi = bif (decide (x ≥ lo)) then (decide (x ≤ hi)) else false := by rw [within]
    exact end_eq (res' := bV (bif (decide (x ≥ lo)) then (decide (x ≤ hi)) else false)) (by kernel_rfl) (by rw [e] <;> rfl)



def isNumI (n : Int) : Bool := within n 0 1099511627775
/-- impl.isNum -/
theorem okisNumI (n : Int) : CallOK Try.prog 30 [iV n] (bV (isNumI n)) [] :=
  callOK tyOK Try.func30 rfl fun w S hS => by
    refine a_seq ?_
    refine a_run [0] tyOK (st1 := mk 5 [(0, iV n)] []) (by kernel_rfl) ?_
    refine a_seq ?_
    refine a_ops [0, 1, 2] (by kernel_rfl) ?_
    refine ao_some [0] [1, 2] [3] tyOK (st1 := mk 5 [(3, iV n)] []) (by kernel_rfl) ?_
    refine ao_enter (f := 29) (d := 4) (A := [iV n, iV 0, iV 1099511627775]) (st1 := mk 5 [(4, bV (within n 0 1099511627775))] []) [4] (okwithin n 0 1099511627775) Try.call29 (by kernel_rfl) (by kernel_rfl) (by kernel_rfl) ?_
    refine ao_some [2] [] [2] tyOK (st1 := mk 5 [(2, bV (within n 0 1099511627775))] []) (by kernel_rfl) ?_
    refine ao_nil ?_
    refine a_ret ?_
    have e : isNumI n = within n 0 1099511627775 := by rw [isNumI]
    exact end_eq (res' := bV (within n 0 1099511627775)) (by kernel_rfl) (by rw [e] <;> rfl)


theorem isNum_eq (n : Int) : isNumI n = l01Num n := rfl
theorem l01_of {m : Int} (h0 : 0 ≤ m) (hM : m ≤ 1099511627775) : l01Num m = true := (l01_iff m).2 ⟨h0, hM⟩
theorem outSize {m n : Int} {o : ByteArray} (hR : numText m ++ o = numText n) : o.size ≤ 13 := by
  have h1 := numText_size n
  rw [← hR, ByteArray.size_append] at h1
  omega
theorem numIn {n : Int} (h : isNumI n = true) : 0 ≤ n ∧ n ≤ 1099511627775 ∧ numText n ++ ⟨#[]⟩ = numText n := by
  have := (l01_iff n).1 (isNum_eq n ▸ h)
  exact ⟨this.1, this.2, ByteArray.append_empty⟩
theorem numBack {m n : Int} {o : ByteArray} (h0 : 0 ≤ m) (hM : m ≤ 1099511627775) (g : m > 9) (hR : numText m ++ o = numText n) : 0 ≤ IntKind.wrap .i64 (Int.tdiv m 10) ∧ IntKind.wrap .i64 (Int.tdiv m 10) ≤ 1099511627775 ∧
    numText (IntKind.wrap .i64 (Int.tdiv m 10)) ++ (byteB (IntKind.wrap .u8 (IntKind.wrap .i64 (48 + (Int.tmod m 10)))) ++ o) = numText n := by
  refine ⟨by rw [tdiv_small h0 hM]; omega, by rw [tdiv_small h0 hM]; omega, ?_⟩
  rw [← hR, numText.eq_def m, dif_pos (l01_of h0 hM), dif_neg (by omega), ByteArray.append_assoc]
theorem numLess {m : Int} (h0 : 0 ≤ m) (hM : m ≤ 1099511627775) (g : m > 9) : (IntKind.wrap .i64 (Int.tdiv m 10)).toNat < m.toNat := by
  rw [tdiv_small h0 hM]; omega

structure L19_1 (n : Int) where
  m : Int
  o : ByteArray
  inv : 0 ≤ m ∧ m ≤ 1099511627775 ∧ numText m ++ o = numText n

/-- impl.NumText -/
theorem okNumTextI (n : Int) : CallOK Try.prog 19 [iV n] (sV (numText n)) [] :=
  callOK tyOK Try.func19 rfl fun w S hS => by
    refine a_seq ?_
    refine a_run [0] tyOK (st1 := mk 26 [(0, iV n)] []) (by kernel_rfl) ?_
    refine a_seq ?_
    refine a_seq ?_
    refine a_ops [0, 1, 2] (by kernel_rfl) ?_
    refine ao_some [0] [1, 2] [0, 4] tyOK (st1 := mk 26 [(0, iV n), (4, iV n)] []) (by kernel_rfl) ?_
    refine ao_enter (f := 30) (d := 5) (A := [iV n]) (st1 := mk 26 [(0, iV n), (5, bV (isNumI n))] []) [0, 5] (okisNumI n) Try.call30 (by kernel_rfl) (by kernel_rfl) (by kernel_rfl) ?_
    refine ao_some [2] [] [0, 6] tyOK (st1 := mk 26 [(0, iV n), (6, bV (!(isNumI n)))] []) (by kernel_rfl) ?_
    refine ao_nil ?_
    refine a_cond (b := !(isNumI n)) (by kernel_rfl) (fun h1 => ?_) (fun h1 => ?_)
    · have g1 := h1
      try simp only [Bool.not_eq_true, Bool.not_eq_false, Bool.not_eq_true'] at g1
      refine a_seq ?_
      refine a_run [2] tyOK (st1 := mk 26 [(2, sV ((⟨#[]⟩ : ByteArray)))] []) (by kernel_rfl) ?_
      refine a_ret ?_
      have e : numText n = (⟨#[]⟩ : ByteArray) := by
          rw [numText, dif_neg (by rw [← isNum_eq]; simpa using h1)]
      exact end_eq (res' := sV ((⟨#[]⟩ : ByteArray))) (by kernel_rfl) (by rw [e] <;> rfl)
    · have g1 := h1
      try simp only [Bool.not_eq_true, Bool.not_eq_false, Bool.not_eq_true'] at g1
      refine a_skip ?_
      refine a_seq ?_
      refine a_run [0, 3] tyOK (st1 := mk 26 [(0, iV n), (3, sV ((⟨#[]⟩ : ByteArray)))] []) (by kernel_rfl) ?_
      refine a_seq ?_
      refine a_block ?_
      refine a_keep [0, 3] ?_
      refine a_loop (ι := L19_1 n) (fun ⟨m, o, _⟩ => mk 26 [(0, iV m), (3, sV o)] []) (fun ⟨m, o, _⟩ => m.toNat) ⟨n, (⟨#[]⟩), numIn (by simpa using h1)⟩ (by kernel_rfl) ?_
      rintro ⟨m, o, hI⟩
      obtain ⟨h0, hM, hR⟩ := hI
      show AWp _ _ _ _ (mk 26 [(0, iV m), (3, sV o)] [])
      refine a_seq ?_
      refine a_seq ?_
      refine a_run [0, 3, 8] tyOK (st1 := mk 26 [(0, iV m), (3, sV o), (8, bV (decide (m > 9)))] []) (by kernel_rfl) ?_
      refine a_cond (b := decide (m > 9)) (by kernel_rfl) (fun h2 => ?_) (fun h2 => ?_)
      · have g2 := h2
        try simp only [decide_eq_true_eq, decide_eq_false_iff_not] at g2
        refine a_skip ?_
        refine a_block ?_
        refine a_seq ?_
        refine a_ops [0, 1, 2, 3, 4, 5, 6, 7, 8] (by kernel_rfl) ?_
        refine ao_some [0, 1, 2, 3, 4, 5, 6] [7, 8] [0, 14, 15] tyOK (st1 := mk 26 [(0, iV m), (14, sV (byteB (IntKind.wrap .u8 (IntKind.wrap .i64 (48 + (Int.tmod m 10)))))), (15, sV o)] []) (by kernel_rfl) ?_
        refine ao_q (d := 16) (c := ((byteB (IntKind.wrap .u8 (IntKind.wrap .i64 (48 + (Int.tmod m 10))))).size + o.size ≤ 140737488355328)) (tv := sV ((byteB (IntKind.wrap .u8 (IntKind.wrap .i64 (48 + (Int.tmod m 10))))) ++ o)) (st1 := mk 26 [(0, iV m), (16, sV ((byteB (IntKind.wrap .u8 (IntKind.wrap .i64 (48 + (Int.tmod m 10))))) ++ o))] []) [0, 16] tyOK (by kernel_rfl) (by first | (have h1 := numText_size (IntKind.wrap .i64 (Int.tdiv n 10)); simp only [ByteArray.size_append, mv_size_mk, List.size_toArray, List.length_cons, List.length_nil, byteB_size]; omega) | (have h1 := outSize hR; simp only [ByteArray.size_append, mv_size_mk, List.size_toArray, List.length_cons, List.length_nil, byteB_size]; omega) | (simp only [ByteArray.size_append, mv_size_mk, List.size_toArray, List.length_cons, List.length_nil, byteB_size]; omega)) (by kernel_rfl) ?_
        refine ao_some [8] [] [0, 3] tyOK (st1 := mk 26 [(0, iV m), (3, sV ((byteB (IntKind.wrap .u8 (IntKind.wrap .i64 (48 + (Int.tmod m 10))))) ++ o))] []) (by kernel_rfl) ?_
        refine ao_nil ?_
        refine a_run [0, 3] tyOK (st1 := mk 26 [(0, iV (IntKind.wrap .i64 (Int.tdiv m 10))), (3, sV ((byteB (IntKind.wrap .u8 (IntKind.wrap .i64 (48 + (Int.tmod m 10))))) ++ o))] []) (by kernel_rfl) ?_
        refine ⟨⟨(IntKind.wrap .i64 (Int.tdiv m 10)), (byteB (IntKind.wrap .u8 (IntKind.wrap .i64 (48 + (Int.tmod m 10)))) ++ o), ?_⟩, ?_, ?_⟩
        · exact numBack h0 hM g2 hR
        · exact (show _ = mk 26 [(0, iV (IntKind.wrap .i64 (Int.tdiv m 10))), (3, sV ((byteB (IntKind.wrap .u8 (IntKind.wrap .i64 (48 + (Int.tmod m 10))))) ++ o))] [] by kernel_rfl).trans (by rfl)
        · exact numLess h0 hM g2
      · have g2 := h2
        try simp only [decide_eq_true_eq, decide_eq_false_iff_not] at g2
        refine a_exit ?_
        refine a_seq ?_
        refine a_ops [0, 1, 2, 3, 4, 5, 6, 7] (by kernel_rfl) ?_
        refine ao_some [0, 1, 2, 3, 4, 5] [6, 7] [23, 24] tyOK (st1 := mk 26 [(23, sV (byteB (IntKind.wrap .u8 (IntKind.wrap .i64 (48 + m))))), (24, sV o)] []) (by kernel_rfl) ?_
        refine ao_q (d := 25) (c := ((byteB (IntKind.wrap .u8 (IntKind.wrap .i64 (48 + m)))).size + o.size ≤ 140737488355328)) (tv := sV ((byteB (IntKind.wrap .u8 (IntKind.wrap .i64 (48 + m)))) ++ o)) (st1 := mk 26 [(25, sV ((byteB (IntKind.wrap .u8 (IntKind.wrap .i64 (48 + m)))) ++ o))] []) [25] tyOK (by kernel_rfl) (by first | (have h1 := numText_size (IntKind.wrap .i64 (Int.tdiv n 10)); simp only [ByteArray.size_append, mv_size_mk, List.size_toArray, List.length_cons, List.length_nil, byteB_size]; omega) | (have h1 := outSize hR; simp only [ByteArray.size_append, mv_size_mk, List.size_toArray, List.length_cons, List.length_nil, byteB_size]; omega) | (simp only [ByteArray.size_append, mv_size_mk, List.size_toArray, List.length_cons, List.length_nil, byteB_size]; omega)) (by kernel_rfl) ?_
        refine ao_some [7] [] [2] tyOK (st1 := mk 26 [(2, sV ((byteB (IntKind.wrap .u8 (IntKind.wrap .i64 (48 + m)))) ++ o))] []) (by kernel_rfl) ?_
        refine ao_nil ?_
        refine a_ret ?_
        have e : numText n = (byteB (IntKind.wrap .u8 (IntKind.wrap .i64 (48 + m)))) ++ o := by
            rw [← hR, numText, dif_pos (l01_of h0 hM), dif_pos (by omega)]
        exact end_eq (res' := sV ((byteB (IntKind.wrap .u8 (IntKind.wrap .i64 (48 + m)))) ++ o)) (by kernel_rfl) (by rw [e] <;> rfl)


def figs : ByteArray := ⟨#[48, 49, 50, 51, 52, 53, 54, 55, 56, 57, 65, 66, 67, 68, 69, 70]⟩
def plainI (b : Int) : Bool := bif within (IntKind.wrap .i64 b) 33 126 then bif (b != 34) then (b != 37) else false else false
def loB (b : Int) : Int := IntKind.wrap .u8 (((BitVec.ofInt 8 b &&& BitVec.ofInt 8 15).toNat : Nat) : Int)
def quoteI (b : Int) : ByteArray := bif plainI b then byteB b else q3 (byteAt figs (Int.fdiv b 16)) (byteAt figs (loB b))
theorem fig_all : ∀ n : Fin 256, (plainI ((n.1 : Nat) : Int) == plainB ((n.1 : Nat) : Int) && byteAt figs (Int.fdiv ((n.1 : Nat) : Int) 16) == digS (IntKind.wrap .i64 (Int.tdiv (IntKind.wrap .i64 ((n.1 : Nat) : Int)) 16)) &&
    byteAt figs (loB ((n.1 : Nat) : Int)) == digS (Int.tmod (IntKind.wrap .i64 ((n.1 : Nat) : Int)) 16) && decide (0 ≤ Int.fdiv ((n.1 : Nat) : Int) 16 ∧ Int.fdiv ((n.1 : Nat) : Int) 16 < 16) && decide (0 ≤ loB ((n.1 : Nat) : Int) ∧ loB ((n.1 : Nat) : Int) < 16)) = true := by decide +kernel
theorem fig_at {b : Int} (h0 : 0 ≤ b) (h1 : b < 256) : plainI b = plainB b ∧ byteAt figs (Int.fdiv b 16) = digS (IntKind.wrap .i64 (Int.tdiv (IntKind.wrap .i64 b) 16)) ∧ byteAt figs (loB b) = digS (Int.tmod (IntKind.wrap .i64 b) 16) ∧
    (0 ≤ Int.fdiv b 16 ∧ Int.fdiv b 16 < 16) ∧ (0 ≤ loB b ∧ loB b < 16) := by
  have h := fig_all ⟨b.toNat, by omega⟩
  rw [show ((b.toNat : Nat) : Int) = b by omega] at h
  simp only [Bool.and_eq_true, beq_iff_eq, decide_eq_true_eq] at h
  exact ⟨h.1.1.1.1, h.1.1.1.2, h.1.1.2, h.1.2, h.2⟩
theorem quoteI_eq {b : Int} (h0 : 0 ≤ b) (h1 : b < 256) : quoteI b = quoteB b := by
  obtain ⟨e1, e2, e3, _⟩ := fig_at h0 h1
  unfold quoteI quoteB
  rw [e1, e2, e3]
theorem figHi {b : Int} (h0 : 0 ≤ b) (h1 : b < 256) : 0 ≤ Int.fdiv b 16 ∧ Int.fdiv b 16 < ((⟨#[48, 49, 50, 51, 52, 53, 54, 55, 56, 57, 65, 66, 67, 68, 69, 70]⟩ : ByteArray).size : Int) := (fig_at h0 h1).2.2.2.1
theorem figLo {b : Int} (h0 : 0 ≤ b) (h1 : b < 256) : 0 ≤ IntKind.wrap .u8 (((BitVec.ofInt 8 b &&& BitVec.ofInt 8 15).toNat : Nat) : Int) ∧ IntKind.wrap .u8 (((BitVec.ofInt 8 b &&& BitVec.ofInt 8 15).toNat : Nat) : Int) < ((⟨#[48, 49, 50, 51, 52, 53, 54, 55, 56, 57, 65, 66, 67, 68, 69, 70]⟩ : ByteArray).size : Int) := (fig_at h0 h1).2.2.2.2

structure L43_1 (s : ByteArray) where
  k : Nat
  o : ByteArray
  inv : k ≤ s.size ∧ s.size ≤ 4096 ∧ o.size ≤ 3 * k + 1 ∧ quoteL ((bytesOf s).drop k) o = quoteL (bytesOf s) (byteB 34)

/-- impl.Quote -/
theorem okQuoteI (s : ByteArray) : CallOK Try.prog 43 [sV s] (sV (quote s)) [] :=
  callOK tyOK Try.func43 rfl fun w S hS => by
    refine a_seq ?_
    refine a_run [0] tyOK (st1 := mk 47 [(0, sV s)] []) (by kernel_rfl) ?_
    refine a_seq ?_
    refine a_seq ?_
    refine a_run [0, 8] tyOK (st1 := mk 47 [(0, sV s), (8, bV (decide (((s.size : Int)) > 4096)))] []) (by kernel_rfl) ?_
    refine a_cond (b := decide (((s.size : Int)) > 4096)) (by kernel_rfl) (fun h1 => ?_) (fun h1 => ?_)
    · have g1 := h1
      try simp only [decide_eq_true_eq, decide_eq_false_iff_not] at g1
      refine a_seq ?_
      refine a_run [2] tyOK (st1 := mk 47 [(2, sV ((⟨#[]⟩ : ByteArray)))] []) (by kernel_rfl) ?_
      refine a_ret ?_
      have e : quote s = (⟨#[]⟩ : ByteArray) := by
          rw [quote, h1, cond_true]
      exact end_eq (res' := sV ((⟨#[]⟩ : ByteArray))) (by kernel_rfl) (by rw [e] <;> rfl)
    · have g1 := h1
      try simp only [decide_eq_true_eq, decide_eq_false_iff_not] at g1
      refine a_skip ?_
      refine a_seq ?_
      refine a_run [0, 3] tyOK (st1 := mk 47 [(0, sV s), (3, .one (.so [] 9 0 1))] [(9, [.sl 1 ([[.v (.int .u8 34)]])])]) (by kernel_rfl) ?_
      refine a_seq ?_
      refine a_seq ?_
      refine a_run [0, 3, 4] tyOK (st1 := mk 47 [(0, sV s), (3, .one (.so [] 9 0 1)), (4, iV 0)] [(9, [.sl 1 ([[.v (.int .u8 34)]])])]) (by kernel_rfl) ?_
      refine a_block ?_
      refine a_keep [0, 3, 4] ?_
      refine a_loop (ι := L43_1 s) (fun ⟨k, o, _⟩ => mk 47 [(0, sV s), (3, .one (.so [] 9 0 o.size)), (4, iV (((k : Nat) : Int)))] [(9, [.sl 1 (byteRows o)])]) (fun ⟨k, o, _⟩ => s.size - k) ⟨0, (byteB 34), Nat.zero_le _, by omega, by rw [byteB_size]; omega, rfl⟩ (by kernel_rfl) ?_
      rintro ⟨k, o, hI⟩
      obtain ⟨hk, hs, ho, hR⟩ := hI
      show AWp _ _ _ _ (mk 47 [(0, sV s), (3, .one (.so [] 9 0 o.size)), (4, iV (((k : Nat) : Int)))] [(9, [.sl 1 (byteRows o)])])
      refine a_seq ?_
      refine a_seq ?_
      refine a_run [0, 3, 4, 13] tyOK (st1 := mk 47 [(0, sV s), (3, .one (.so [] 9 0 o.size)), (4, iV (((k : Nat) : Int))), (13, bV (decide ((((k : Nat) : Int)) < ((s.size : Int)))))] [(9, [.sl 1 (byteRows o)])]) (by kernel_rfl) ?_
      refine a_cond (b := decide ((((k : Nat) : Int)) < ((s.size : Int)))) (by kernel_rfl) (fun h2 => ?_) (fun h2 => ?_)
      · have g2 := h2
        try simp only [decide_eq_true_eq, decide_eq_false_iff_not] at g2
        refine a_skip ?_
        refine a_seq ?_
        refine a_block ?_
        refine a_seq ?_
        refine a_ops [0, 1, 2, 3] (by kernel_rfl) ?_
        refine ao_some [0, 1] [2, 3] [0, 3, 4, 16, 17] tyOK (st1 := mk 47 [(0, sV s), (3, .one (.so [] 9 0 o.size)), (4, iV (((k : Nat) : Int))), (16, sV s), (17, iV (((k : Nat) : Int)))] [(9, [.sl 1 (byteRows o)])]) (by kernel_rfl) ?_
        refine ao_q (d := 18) (c := (0 ≤ (((k : Nat) : Int)) ∧ (((k : Nat) : Int)) < (s.size : Int))) (tv := .one (.c (.v (.int .u8 (byteAt s (((k : Nat) : Int))))))) (st1 := mk 47 [(0, sV s), (3, .one (.so [] 9 0 o.size)), (4, iV (((k : Nat) : Int))), (18, .one (.c (.v (.int .u8 (byteAt s (((k : Nat) : Int)))))))] [(9, [.sl 1 (byteRows o)])]) [0, 3, 4, 18] tyOK (by kernel_rfl) (by first | omega | exact figHi (byteAt_lo _ _) (byteAt_hi _ _) | exact figLo (byteAt_lo _ _) (byteAt_hi _ _)) (by kernel_rfl) ?_
        refine ao_some [3] [] [0, 3, 4, 5] tyOK (st1 := mk 47 [(0, sV s), (3, .one (.so [] 9 0 o.size)), (4, iV (((k : Nat) : Int))), (5, .one (.c (.v (.int .u8 (byteAt s (((k : Nat) : Int)))))))] [(9, [.sl 1 (byteRows o)])]) (by kernel_rfl) ?_
        refine ao_nil ?_
        refine a_seq ?_
        refine a_mid (mk 47 [(0, sV s), (3, .one (.so [] 9 0 o.size)), (4, iV (((k : Nat) : Int))), (5, .one (.c (.v (.int .u8 (byteAt s (((k : Nat) : Int))))))), (29, bV (bif (within (IntKind.wrap .i64 (byteAt s (((k : Nat) : Int)))) 33 126) then (bif (((byteAt s (((k : Nat) : Int))) != 34)) then (((byteAt s (((k : Nat) : Int))) != 37)) else false) else false))] [(9, [.sl 1 (byteRows o)])]) ?_ ?_
        · refine a_ops [0, 1, 2, 3, 4, 5, 6, 7, 8, 9, 10] (by kernel_rfl) ?_
          refine ao_some [0, 1] [2, 3, 4, 5, 6, 7, 8, 9, 10] [0, 3, 4, 5, 20] tyOK (st1 := mk 47 [(0, sV s), (3, .one (.so [] 9 0 o.size)), (4, iV (((k : Nat) : Int))), (5, .one (.c (.v (.int .u8 (byteAt s (((k : Nat) : Int))))))), (20, iV (IntKind.wrap .i64 (byteAt s (((k : Nat) : Int)))))] [(9, [.sl 1 (byteRows o)])]) (by kernel_rfl) ?_
          refine ao_enter (f := 29) (d := 21) (A := [iV (IntKind.wrap .i64 (byteAt s (((k : Nat) : Int)))), iV 33, iV 126]) (st1 := mk 47 [(0, sV s), (3, .one (.so [] 9 0 o.size)), (4, iV (((k : Nat) : Int))), (5, .one (.c (.v (.int .u8 (byteAt s (((k : Nat) : Int))))))), (21, bV (within (IntKind.wrap .i64 (byteAt s (((k : Nat) : Int)))) 33 126))] [(9, [.sl 1 (byteRows o)])]) [0, 3, 4, 5, 21] (okwithin (IntKind.wrap .i64 (byteAt s (((k : Nat) : Int)))) 33 126) Try.call29 (by kernel_rfl) (by kernel_rfl) (by kernel_rfl) ?_
          refine ao_some [3] [4, 5, 6, 7, 8, 9, 10] [0, 3, 4, 5, 22] tyOK (st1 := mk 47 [(0, sV s), (3, .one (.so [] 9 0 o.size)), (4, iV (((k : Nat) : Int))), (5, .one (.c (.v (.int .u8 (byteAt s (((k : Nat) : Int))))))), (22, bV (within (IntKind.wrap .i64 (byteAt s (((k : Nat) : Int)))) 33 126))] [(9, [.sl 1 (byteRows o)])]) (by kernel_rfl) ?_
          rcases Bool.eq_false_or_eq_true (within (IntKind.wrap .i64 (byteAt s (((k : Nat) : Int)))) 33 126) with h3 | h3
          · rw [h3]
            have g3 := h3
            refine ao_some [4, 5, 6, 7] [8, 9, 10] [0, 3, 4, 5, 26] tyOK (st1 := mk 47 [(0, sV s), (3, .one (.so [] 9 0 o.size)), (4, iV (((k : Nat) : Int))), (5, .one (.c (.v (.int .u8 (byteAt s (((k : Nat) : Int))))))), (26, bV (((byteAt s (((k : Nat) : Int))) != 34)))] [(9, [.sl 1 (byteRows o)])]) (by kernel_rfl) ?_
            rcases Bool.eq_false_or_eq_true (((byteAt s (((k : Nat) : Int))) != 34)) with h4 | h4
            · rw [h4]
              have g4 := h4
              try simp only [bne_iff_ne, bne_eq_false_iff_eq, ne_eq] at g4
              refine ao_some [8, 9, 10] [] [0, 3, 4, 5, 29] tyOK (st1 := mk 47 [(0, sV s), (3, .one (.so [] 9 0 o.size)), (4, iV (((k : Nat) : Int))), (5, .one (.c (.v (.int .u8 (byteAt s (((k : Nat) : Int))))))), (29, bV (((byteAt s (((k : Nat) : Int))) != 37)))] [(9, [.sl 1 (byteRows o)])]) (by kernel_rfl) ?_
              exact ao_nil (by show _ = _; kernel_rfl)
            · rw [h4]
              have g4 := h4
              try simp only [bne_iff_ne, bne_eq_false_iff_eq, ne_eq] at g4
              refine ao_some [8, 9, 10] [] [0, 3, 4, 5, 29] tyOK (st1 := mk 47 [(0, sV s), (3, .one (.so [] 9 0 o.size)), (4, iV (((k : Nat) : Int))), (5, .one (.c (.v (.int .u8 (byteAt s (((k : Nat) : Int))))))), (29, bV false)] [(9, [.sl 1 (byteRows o)])]) (by kernel_rfl) ?_
              exact ao_nil (by show _ = _; kernel_rfl)
          · rw [h3]
            have g3 := h3
            refine ao_some [4, 5, 6, 7, 8, 9, 10] [] [0, 3, 4, 5, 29] tyOK (st1 := mk 47 [(0, sV s), (3, .one (.so [] 9 0 o.size)), (4, iV (((k : Nat) : Int))), (5, .one (.c (.v (.int .u8 (byteAt s (((k : Nat) : Int))))))), (29, bV false)] [(9, [.sl 1 (byteRows o)])]) (by kernel_rfl) ?_
            exact ao_nil (by show _ = _; kernel_rfl)
        refine a_cond (b := bif (within (IntKind.wrap .i64 (byteAt s (((k : Nat) : Int)))) 33 126) then (bif (((byteAt s (((k : Nat) : Int))) != 34)) then (((byteAt s (((k : Nat) : Int))) != 37)) else false) else false) (by kernel_rfl) (fun h5 => ?_) (fun h5 => ?_)
        · have g5 := h5
          try simp only [bne_iff_ne, bne_eq_false_iff_eq, ne_eq] at g5
          refine a_ops [0, 1, 2, 3, 4] (by kernel_rfl) ?_
          refine ao_some [0, 1, 2] [3, 4] [0, 4, 30, 32] tyOK (st1 := mk 47 [(0, sV s), (4, iV (((k : Nat) : Int))), (30, .one (.so [] 9 0 o.size)), (32, .one (.so [] 32 0 1))] [(9, [.sl 1 (byteRows o)]), (32, [.sl 1 ([[.v (.int .u8 (byteAt s (((k : Nat) : Int))))]])])]) (by kernel_rfl) ?_
          refine ao_append (d := 33) (n := o.size) (n' := ((o ++ byteB (byteAt s ((k : Nat) : Int))).size)) (bytes := 1) (size := 1) (src := (some ([], 9, 0))) (rows := byteRows o) (tx := .one (.so [] 32 0 1)) (new := [[.v (.int .u8 (byteAt s (((k : Nat) : Int))))]]) (rows' := byteRows (o ++ byteB (byteAt s ((k : Nat) : Int)))) (st1 := mk 47 [(0, sV s), (4, iV (((k : Nat) : Int))), (33, .one (.so [] 33 0 ((o ++ byteB (byteAt s ((k : Nat) : Int))).size)))] [(33, [.sl 1 (byteRows (o ++ byteB (byteAt s ((k : Nat) : Int))))])]) [0, 4, 33] tyOK (by kernel_rfl) (by kernel_rfl) (byteRows_length _) (by rw [byteRows_length]; simp only [List.length_cons, List.length_nil]; omega) (by kernel_rfl) (by exact rows1 (byteAt_lo _ _) (byteAt_hi _ _)) (by rw [byteRows_length, ByteArray.size_append]; rfl) (by kernel_rfl) ?_
          refine ao_some [4] [] [0, 3, 4] tyOK (st1 := mk 47 [(0, sV s), (3, .one (.so [] 33 0 ((o ++ byteB (byteAt s ((k : Nat) : Int))).size))), (4, iV (((k : Nat) : Int)))] [(33, [.sl 1 (byteRows (o ++ byteB (byteAt s ((k : Nat) : Int))))])]) (by kernel_rfl) ?_
          refine ao_nil ?_
          refine a_rename 33 9 3 [0, 3, 4] (st1 := mk 47 [(0, sV s), (3, .one (.so [] 9 0 ((o ++ byteB (byteAt s ((k : Nat) : Int))).size))), (4, iV (((k : Nat) : Int)))] [(9, [.sl 1 (byteRows (o ++ byteB (byteAt s ((k : Nat) : Int))))])]) (by kernel_rfl) ?_
          refine a_run [0, 3, 4] tyOK (st1 := mk 47 [(0, sV s), (3, .one (.so [] 9 0 ((o ++ byteB (byteAt s ((k : Nat) : Int))).size))), (4, iV (IntKind.wrap .i64 ((((k : Nat) : Int)) + 1)))] [(9, [.sl 1 (byteRows (o ++ byteB (byteAt s ((k : Nat) : Int))))])]) (by kernel_rfl) ?_
          refine ⟨⟨(k + 1), (o ++ byteB (byteAt s ((k : Nat) : Int))), ?_⟩, ?_, ?_⟩
          · exact ⟨by omega, hs, by rw [ByteArray.size_append, byteB_size]; omega, by rw [← hR, drop_bytes (k := k) (by omega), quoteL, ← quoteI_eq (byteAt_lo _ _) (byteAt_hi _ _), quoteI, show plainI _ = true from h5, cond_true]⟩
          · exact (show _ = mk 47 [(0, sV s), (3, .one (.so [] 9 0 ((o ++ byteB (byteAt s ((k : Nat) : Int))).size))), (4, iV (IntKind.wrap .i64 ((((k : Nat) : Int)) + 1)))] [(9, [.sl 1 (byteRows (o ++ byteB (byteAt s ((k : Nat) : Int))))])] by kernel_rfl).trans (by rw [mv_wrap (n := (k : Int) + 1) (by omega) (by omega)]; rfl)
          · dsimp only; omega
        · have g5 := h5
          try simp only [bne_iff_ne, bne_eq_false_iff_eq, ne_eq] at g5
          refine a_mid (mk 47 [(0, sV s), (3, .one (.so [] 42 0 ((o ++ q3 (byteAt (⟨#[48, 49, 50, 51, 52, 53, 54, 55, 56, 57, 65, 66, 67, 68, 69, 70]⟩ : ByteArray) (Int.fdiv (byteAt s ((k : Nat) : Int)) 16)) (byteAt (⟨#[48, 49, 50, 51, 52, 53, 54, 55, 56, 57, 65, 66, 67, 68, 69, 70]⟩ : ByteArray) (IntKind.wrap .u8 (((BitVec.ofInt 8 (byteAt s ((k : Nat) : Int)) &&& BitVec.ofInt 8 15).toNat : Nat) : Int)))).size))), (4, iV (((k : Nat) : Int)))] [(42, [.sl 1 (byteRows (o ++ q3 (byteAt (⟨#[48, 49, 50, 51, 52, 53, 54, 55, 56, 57, 65, 66, 67, 68, 69, 70]⟩ : ByteArray) (Int.fdiv (byteAt s ((k : Nat) : Int)) 16)) (byteAt (⟨#[48, 49, 50, 51, 52, 53, 54, 55, 56, 57, 65, 66, 67, 68, 69, 70]⟩ : ByteArray) (IntKind.wrap .u8 (((BitVec.ofInt 8 (byteAt s ((k : Nat) : Int)) &&& BitVec.ofInt 8 15).toNat : Nat) : Int)))))])]) ?_ ?_
          · refine a_drawn (n := 10) [8] (by kernel_rfl) (by kernel_rfl) ?_
            refine aa_take (fuel := 5) (listed' := #[true, true, true, false, true, true, false, false, false, false]) (st' := mk 47 [(0, sV s), (4, iV (((k : Nat) : Int))), (34, .one (.so [] 9 0 o.size)), (36, .one (.c (.v (.int .u8 (Int.fdiv (byteAt s (((k : Nat) : Int))) 16))))), (39, .one (.c (.v (.int .u8 (IntKind.wrap .u8 (((BitVec.ofInt 8 (byteAt s (((k : Nat) : Int))) &&& BitVec.ofInt 8 15).toNat : Nat) : Int))))))] [(9, [.sl 1 (byteRows o)])]) [0, 1, 2, 4, 5] [0, 4, 34, 36, 39] tyOK (by kernel_rfl) (by kernel_rfl) (by kernel_rfl) ?_
            refine aa_q (i := 3) (d := 37) (c := (0 ≤ (Int.fdiv (byteAt s (((k : Nat) : Int))) 16) ∧ (Int.fdiv (byteAt s (((k : Nat) : Int))) 16) < (((⟨#[48, 49, 50, 51, 52, 53, 54, 55, 56, 57, 65, 66, 67, 68, 69, 70]⟩ : ByteArray)).size : Int))) (tv := .one (.c (.v (.int .u8 (byteAt ((⟨#[48, 49, 50, 51, 52, 53, 54, 55, 56, 57, 65, 66, 67, 68, 69, 70]⟩ : ByteArray)) (Int.fdiv (byteAt s (((k : Nat) : Int))) 16)))))) (listed' := #[true, true, true, true, true, true, false, false, false, false]) (st1 := mk 47 [(0, sV s), (4, iV (((k : Nat) : Int))), (34, .one (.so [] 9 0 o.size)), (37, .one (.c (.v (.int .u8 (byteAt ((⟨#[48, 49, 50, 51, 52, 53, 54, 55, 56, 57, 65, 66, 67, 68, 69, 70]⟩ : ByteArray)) (Int.fdiv (byteAt s (((k : Nat) : Int))) 16)))))), (39, .one (.c (.v (.int .u8 (IntKind.wrap .u8 (((BitVec.ofInt 8 (byteAt s (((k : Nat) : Int))) &&& BitVec.ofInt 8 15).toNat : Nat) : Int))))))] [(9, [.sl 1 (byteRows o)])]) [0, 4, 34, 37, 39] tyOK (by kernel_rfl) (by kernel_rfl) (by first | omega | exact figHi (byteAt_lo _ _) (byteAt_hi _ _) | exact figLo (byteAt_lo _ _) (byteAt_hi _ _)) (by kernel_rfl) (by kernel_rfl) (by kernel_rfl) ?_
            refine aa_q (i := 6) (d := 40) (c := (0 ≤ (IntKind.wrap .u8 (((BitVec.ofInt 8 (byteAt s (((k : Nat) : Int))) &&& BitVec.ofInt 8 15).toNat : Nat) : Int)) ∧ (IntKind.wrap .u8 (((BitVec.ofInt 8 (byteAt s (((k : Nat) : Int))) &&& BitVec.ofInt 8 15).toNat : Nat) : Int)) < (((⟨#[48, 49, 50, 51, 52, 53, 54, 55, 56, 57, 65, 66, 67, 68, 69, 70]⟩ : ByteArray)).size : Int))) (tv := .one (.c (.v (.int .u8 (byteAt ((⟨#[48, 49, 50, 51, 52, 53, 54, 55, 56, 57, 65, 66, 67, 68, 69, 70]⟩ : ByteArray)) (IntKind.wrap .u8 (((BitVec.ofInt 8 (byteAt s (((k : Nat) : Int))) &&& BitVec.ofInt 8 15).toNat : Nat) : Int))))))) (listed' := #[true, true, true, true, true, true, true, false, false, false]) (st1 := mk 47 [(0, sV s), (4, iV (((k : Nat) : Int))), (34, .one (.so [] 9 0 o.size)), (37, .one (.c (.v (.int .u8 (byteAt ((⟨#[48, 49, 50, 51, 52, 53, 54, 55, 56, 57, 65, 66, 67, 68, 69, 70]⟩ : ByteArray)) (Int.fdiv (byteAt s (((k : Nat) : Int))) 16)))))), (40, .one (.c (.v (.int .u8 (byteAt ((⟨#[48, 49, 50, 51, 52, 53, 54, 55, 56, 57, 65, 66, 67, 68, 69, 70]⟩ : ByteArray)) (IntKind.wrap .u8 (((BitVec.ofInt 8 (byteAt s (((k : Nat) : Int))) &&& BitVec.ofInt 8 15).toNat : Nat) : Int)))))))] [(9, [.sl 1 (byteRows o)])]) [0, 4, 34, 37, 40] tyOK (by kernel_rfl) (by kernel_rfl) (by first | omega | exact figHi (byteAt_lo _ _) (byteAt_hi _ _) | exact figLo (byteAt_lo _ _) (byteAt_hi _ _)) (by kernel_rfl) (by kernel_rfl) (by kernel_rfl) ?_
            refine aa_all [7] (by kernel_rfl) rfl ?_
            refine aa_cons ?_ aa_nil
            refine aone_any (listed' := #[true, true, true, true, true, true, true, true, false, false]) (st1 := mk 47 [(0, sV s), (4, iV (((k : Nat) : Int))), (34, .one (.so [] 9 0 o.size)), (41, .one (.so [] 41 0 3))] [(9, [.sl 1 (byteRows o)]), (41, [.sl 1 ([[.v (.int .u8 37)], [.v (.int .u8 (byteAt ((⟨#[48, 49, 50, 51, 52, 53, 54, 55, 56, 57, 65, 66, 67, 68, 69, 70]⟩ : ByteArray)) (Int.fdiv (byteAt s (((k : Nat) : Int))) 16)))], [.v (.int .u8 (byteAt ((⟨#[48, 49, 50, 51, 52, 53, 54, 55, 56, 57, 65, 66, 67, 68, 69, 70]⟩ : ByteArray)) (IntKind.wrap .u8 (((BitVec.ofInt 8 (byteAt s (((k : Nat) : Int))) &&& BitVec.ofInt 8 15).toNat : Nat) : Int))))]])])]) [0, 4, 34, 41] tyOK (by kernel_rfl) (by kernel_rfl) ?_
            refine aa_all [8] (by kernel_rfl) rfl ?_
            refine aa_cons ?_ aa_nil
            refine aone_append (listed' := #[true, true, true, true, true, true, true, true, true, false]) (d := 42) (n := o.size) (n' := ((o ++ q3 (byteAt (⟨#[48, 49, 50, 51, 52, 53, 54, 55, 56, 57, 65, 66, 67, 68, 69, 70]⟩ : ByteArray) (Int.fdiv (byteAt s ((k : Nat) : Int)) 16)) (byteAt (⟨#[48, 49, 50, 51, 52, 53, 54, 55, 56, 57, 65, 66, 67, 68, 69, 70]⟩ : ByteArray) (IntKind.wrap .u8 (((BitVec.ofInt 8 (byteAt s ((k : Nat) : Int)) &&& BitVec.ofInt 8 15).toNat : Nat) : Int)))).size)) (bytes := 1) (size := 1) (src := (some ([], 9, 0))) (rows := byteRows o) (tx := .one (.so [] 41 0 3)) (new := [[.v (.int .u8 37)], [.v (.int .u8 (byteAt ((⟨#[48, 49, 50, 51, 52, 53, 54, 55, 56, 57, 65, 66, 67, 68, 69, 70]⟩ : ByteArray)) (Int.fdiv (byteAt s (((k : Nat) : Int))) 16)))], [.v (.int .u8 (byteAt ((⟨#[48, 49, 50, 51, 52, 53, 54, 55, 56, 57, 65, 66, 67, 68, 69, 70]⟩ : ByteArray)) (IntKind.wrap .u8 (((BitVec.ofInt 8 (byteAt s (((k : Nat) : Int))) &&& BitVec.ofInt 8 15).toNat : Nat) : Int))))]]) (rows' := byteRows (o ++ q3 (byteAt (⟨#[48, 49, 50, 51, 52, 53, 54, 55, 56, 57, 65, 66, 67, 68, 69, 70]⟩ : ByteArray) (Int.fdiv (byteAt s ((k : Nat) : Int)) 16)) (byteAt (⟨#[48, 49, 50, 51, 52, 53, 54, 55, 56, 57, 65, 66, 67, 68, 69, 70]⟩ : ByteArray) (IntKind.wrap .u8 (((BitVec.ofInt 8 (byteAt s ((k : Nat) : Int)) &&& BitVec.ofInt 8 15).toNat : Nat) : Int))))) (st1 := mk 47 [(0, sV s), (4, iV (((k : Nat) : Int))), (42, .one (.so [] 42 0 ((o ++ q3 (byteAt (⟨#[48, 49, 50, 51, 52, 53, 54, 55, 56, 57, 65, 66, 67, 68, 69, 70]⟩ : ByteArray) (Int.fdiv (byteAt s ((k : Nat) : Int)) 16)) (byteAt (⟨#[48, 49, 50, 51, 52, 53, 54, 55, 56, 57, 65, 66, 67, 68, 69, 70]⟩ : ByteArray) (IntKind.wrap .u8 (((BitVec.ofInt 8 (byteAt s ((k : Nat) : Int)) &&& BitVec.ofInt 8 15).toNat : Nat) : Int)))).size)))] [(42, [.sl 1 (byteRows (o ++ q3 (byteAt (⟨#[48, 49, 50, 51, 52, 53, 54, 55, 56, 57, 65, 66, 67, 68, 69, 70]⟩ : ByteArray) (Int.fdiv (byteAt s ((k : Nat) : Int)) 16)) (byteAt (⟨#[48, 49, 50, 51, 52, 53, 54, 55, 56, 57, 65, 66, 67, 68, 69, 70]⟩ : ByteArray) (IntKind.wrap .u8 (((BitVec.ofInt 8 (byteAt s ((k : Nat) : Int)) &&& BitVec.ofInt 8 15).toNat : Nat) : Int)))))])]) [0, 4, 42] tyOK (by kernel_rfl) (by kernel_rfl) (byteRows_length _) (by rw [byteRows_length]; simp only [List.length_cons, List.length_nil]; omega) (by kernel_rfl) (by exact rows3 (by first | exact byteAt_lo _ _ | exact digS_lo _) (by first | exact byteAt_hi _ _ | exact digS_hi _) (by first | exact byteAt_lo _ _ | exact digS_lo _) (by first | exact byteAt_hi _ _ | exact digS_hi _)) (by rw [byteRows_length, ByteArray.size_append]; rfl) (by kernel_rfl) (by kernel_rfl) (by kernel_rfl) ?_
            refine aa_take (fuel := 0) (listed' := #[true, true, true, true, true, true, true, true, true, true]) (st' := mk 47 [(0, sV s), (3, .one (.so [] 42 0 ((o ++ q3 (byteAt (⟨#[48, 49, 50, 51, 52, 53, 54, 55, 56, 57, 65, 66, 67, 68, 69, 70]⟩ : ByteArray) (Int.fdiv (byteAt s ((k : Nat) : Int)) 16)) (byteAt (⟨#[48, 49, 50, 51, 52, 53, 54, 55, 56, 57, 65, 66, 67, 68, 69, 70]⟩ : ByteArray) (IntKind.wrap .u8 (((BitVec.ofInt 8 (byteAt s ((k : Nat) : Int)) &&& BitVec.ofInt 8 15).toNat : Nat) : Int)))).size))), (4, iV (((k : Nat) : Int)))] [(42, [.sl 1 (byteRows (o ++ q3 (byteAt (⟨#[48, 49, 50, 51, 52, 53, 54, 55, 56, 57, 65, 66, 67, 68, 69, 70]⟩ : ByteArray) (Int.fdiv (byteAt s ((k : Nat) : Int)) 16)) (byteAt (⟨#[48, 49, 50, 51, 52, 53, 54, 55, 56, 57, 65, 66, 67, 68, 69, 70]⟩ : ByteArray) (IntKind.wrap .u8 (((BitVec.ofInt 8 (byteAt s ((k : Nat) : Int)) &&& BitVec.ofInt 8 15).toNat : Nat) : Int)))))])]) [9] [0, 3, 4] tyOK (by kernel_rfl) (by kernel_rfl) (by kernel_rfl) ?_
            refine aa_done (by kernel_rfl) ?_
            show _ = _; kernel_rfl
          refine a_rename 42 9 3 [0, 3, 4] (st1 := mk 47 [(0, sV s), (3, .one (.so [] 9 0 ((o ++ q3 (byteAt (⟨#[48, 49, 50, 51, 52, 53, 54, 55, 56, 57, 65, 66, 67, 68, 69, 70]⟩ : ByteArray) (Int.fdiv (byteAt s ((k : Nat) : Int)) 16)) (byteAt (⟨#[48, 49, 50, 51, 52, 53, 54, 55, 56, 57, 65, 66, 67, 68, 69, 70]⟩ : ByteArray) (IntKind.wrap .u8 (((BitVec.ofInt 8 (byteAt s ((k : Nat) : Int)) &&& BitVec.ofInt 8 15).toNat : Nat) : Int)))).size))), (4, iV (((k : Nat) : Int)))] [(9, [.sl 1 (byteRows (o ++ q3 (byteAt (⟨#[48, 49, 50, 51, 52, 53, 54, 55, 56, 57, 65, 66, 67, 68, 69, 70]⟩ : ByteArray) (Int.fdiv (byteAt s ((k : Nat) : Int)) 16)) (byteAt (⟨#[48, 49, 50, 51, 52, 53, 54, 55, 56, 57, 65, 66, 67, 68, 69, 70]⟩ : ByteArray) (IntKind.wrap .u8 (((BitVec.ofInt 8 (byteAt s ((k : Nat) : Int)) &&& BitVec.ofInt 8 15).toNat : Nat) : Int)))))])]) (by kernel_rfl) ?_
          refine a_run [0, 3, 4] tyOK (st1 := mk 47 [(0, sV s), (3, .one (.so [] 9 0 ((o ++ q3 (byteAt (⟨#[48, 49, 50, 51, 52, 53, 54, 55, 56, 57, 65, 66, 67, 68, 69, 70]⟩ : ByteArray) (Int.fdiv (byteAt s ((k : Nat) : Int)) 16)) (byteAt (⟨#[48, 49, 50, 51, 52, 53, 54, 55, 56, 57, 65, 66, 67, 68, 69, 70]⟩ : ByteArray) (IntKind.wrap .u8 (((BitVec.ofInt 8 (byteAt s ((k : Nat) : Int)) &&& BitVec.ofInt 8 15).toNat : Nat) : Int)))).size))), (4, iV (IntKind.wrap .i64 ((((k : Nat) : Int)) + 1)))] [(9, [.sl 1 (byteRows (o ++ q3 (byteAt (⟨#[48, 49, 50, 51, 52, 53, 54, 55, 56, 57, 65, 66, 67, 68, 69, 70]⟩ : ByteArray) (Int.fdiv (byteAt s ((k : Nat) : Int)) 16)) (byteAt (⟨#[48, 49, 50, 51, 52, 53, 54, 55, 56, 57, 65, 66, 67, 68, 69, 70]⟩ : ByteArray) (IntKind.wrap .u8 (((BitVec.ofInt 8 (byteAt s ((k : Nat) : Int)) &&& BitVec.ofInt 8 15).toNat : Nat) : Int)))))])]) (by kernel_rfl) ?_
          refine ⟨⟨(k + 1), (o ++ q3 (byteAt (⟨#[48, 49, 50, 51, 52, 53, 54, 55, 56, 57, 65, 66, 67, 68, 69, 70]⟩ : ByteArray) (Int.fdiv (byteAt s ((k : Nat) : Int)) 16)) (byteAt (⟨#[48, 49, 50, 51, 52, 53, 54, 55, 56, 57, 65, 66, 67, 68, 69, 70]⟩ : ByteArray) (IntKind.wrap .u8 (((BitVec.ofInt 8 (byteAt s ((k : Nat) : Int)) &&& BitVec.ofInt 8 15).toNat : Nat) : Int)))), ?_⟩, ?_, ?_⟩
          · exact ⟨by omega, hs, by rw [ByteArray.size_append, q3_size]; omega, by rw [← hR, drop_bytes (k := k) (by omega), quoteL, ← quoteI_eq (byteAt_lo _ _) (byteAt_hi _ _), quoteI, show plainI _ = false from h5, cond_false]; rfl⟩
          · exact (show _ = mk 47 [(0, sV s), (3, .one (.so [] 9 0 ((o ++ q3 (byteAt (⟨#[48, 49, 50, 51, 52, 53, 54, 55, 56, 57, 65, 66, 67, 68, 69, 70]⟩ : ByteArray) (Int.fdiv (byteAt s ((k : Nat) : Int)) 16)) (byteAt (⟨#[48, 49, 50, 51, 52, 53, 54, 55, 56, 57, 65, 66, 67, 68, 69, 70]⟩ : ByteArray) (IntKind.wrap .u8 (((BitVec.ofInt 8 (byteAt s ((k : Nat) : Int)) &&& BitVec.ofInt 8 15).toNat : Nat) : Int)))).size))), (4, iV (IntKind.wrap .i64 ((((k : Nat) : Int)) + 1)))] [(9, [.sl 1 (byteRows (o ++ q3 (byteAt (⟨#[48, 49, 50, 51, 52, 53, 54, 55, 56, 57, 65, 66, 67, 68, 69, 70]⟩ : ByteArray) (Int.fdiv (byteAt s ((k : Nat) : Int)) 16)) (byteAt (⟨#[48, 49, 50, 51, 52, 53, 54, 55, 56, 57, 65, 66, 67, 68, 69, 70]⟩ : ByteArray) (IntKind.wrap .u8 (((BitVec.ofInt 8 (byteAt s ((k : Nat) : Int)) &&& BitVec.ofInt 8 15).toNat : Nat) : Int)))))])] by kernel_rfl).trans (by rw [mv_wrap (n := (k : Int) + 1) (by omega) (by omega)]; rfl)
          · dsimp only; omega
      · have g2 := h2
        try simp only [decide_eq_true_eq, decide_eq_false_iff_not] at g2
        refine a_exit ?_
        refine a_seq ?_
        refine a_ops [0, 1, 2, 3, 4] (by kernel_rfl) ?_
        refine ao_some [0, 1] [2, 3, 4] [43, 44] tyOK (st1 := mk 47 [(43, .one (.so [] 9 0 o.size)), (44, .one (.so [] 44 0 1))] [(9, [.sl 1 (byteRows o)]), (44, [.sl 1 ([[.v (.int .u8 34)]])])]) (by kernel_rfl) ?_
        refine ao_append (d := 45) (n := o.size) (n' := ((o ++ byteB 34).size)) (bytes := 1) (size := 1) (src := (some ([], 9, 0))) (rows := byteRows o) (tx := .one (.so [] 44 0 1)) (new := [[.v (.int .u8 34)]]) (rows' := byteRows (o ++ byteB 34)) (st1 := mk 47 [(45, .one (.so [] 45 0 ((o ++ byteB 34).size)))] [(45, [.sl 1 (byteRows (o ++ byteB 34))])]) [45] tyOK (by kernel_rfl) (by kernel_rfl) (byteRows_length _) (by rw [byteRows_length]; simp only [List.length_cons, List.length_nil]; omega) (by kernel_rfl) (by exact rows1 (by decide) (by decide)) (by rw [byteRows_length, ByteArray.size_append]; rfl) (by kernel_rfl) ?_
        refine ao_string (d := 46) (n := ((o ++ byteB 34).size)) (rows := byteRows (o ++ byteB 34)) (s := (o ++ byteB 34)) (st1 := mk 47 [(46, sV (o ++ byteB 34))] []) [46] tyOK (by kernel_rfl) (byteRows_length _) rfl (by kernel_rfl) ?_
        refine ao_some [4] [] [2] tyOK (st1 := mk 47 [(2, sV (o ++ byteB 34))] []) (by kernel_rfl) ?_
        refine ao_nil ?_
        refine a_ret ?_
        have e : quote s = o ++ byteB 34 := by
            rw [quote, h1, cond_false, ← hR, List.drop_eq_nil_of_le (by rw [bytesOf_length]; omega), quoteL]
        exact end_eq (res' := sV (o ++ byteB 34)) (by kernel_rfl) (by rw [e] <;> rfl)



def userOkS (k : ByteArray) : Bool := bif (decide (((k.size : Int)) ≥ 1)) then (decide (((k.size : Int)) ≤ 8)) else false
/-- spec.UserOk -/
theorem ok48 (k : ByteArray) : CallOK Try.prog 48 [sV k] (bV (userOkS k)) [] :=
  callOK tyOK Try.func48 rfl fun w S hS => by
    refine a_seq ?_
    refine a_run [0] tyOK (st1 := mk 11 [(0, sV k)] []) (by kernel_rfl) ?_
    refine a_seq ?_
    refine a_mid (mk 11 [(2, bV (bif (decide (((k.size : Int)) ≥ 1)) then (decide (((k.size : Int)) ≤ 8)) else false))] []) ?_ ?_
    · refine a_ops [0, 1, 2, 3, 4, 5, 6, 7, 8] (by kernel_rfl) ?_
      refine ao_some [0, 1, 2, 3] [4, 5, 6, 7, 8] [0, 6] tyOK (st1 := mk 11 [(0, sV k), (6, bV (decide (((k.size : Int)) ≥ 1)))] []) (by kernel_rfl) ?_
      rcases Bool.eq_false_or_eq_true (decide (((k.size : Int)) ≥ 1)) with h1 | h1
      · rw [h1]
        have g1 := h1
        try simp only [decide_eq_true_eq, decide_eq_false_iff_not] at g1
        refine ao_some [4, 5, 6, 7, 8] [] [2] tyOK (st1 := mk 11 [(2, bV (decide (((k.size : Int)) ≤ 8)))] []) (by kernel_rfl) ?_
        exact ao_nil (by show _ = _; kernel_rfl)
      · rw [h1]
        have g1 := h1
        try simp only [decide_eq_true_eq, decide_eq_false_iff_not] at g1
        refine ao_some [4, 5, 6, 7, 8] [] [2] tyOK (st1 := mk 11 [(2, bV false)] []) (by kernel_rfl) ?_
        exact ao_nil (by show _ = _; kernel_rfl)
    refine a_ret ?_
    have e : userOkS k = bif (decide (((k.size : Int)) ≥ 1)) then (decide (((k.size : Int)) ≤ 8)) else false := by rw [userOkS]
    exact end_eq (res' := bV (bif (decide (((k.size : Int)) ≥ 1)) then (decide (((k.size : Int)) ≤ 8)) else false)) (by kernel_rfl) (by rw [e] <;> rfl)



def uvalOkS (v : ByteArray) : Bool := decide (((v.size : Int)) ≤ 20)
/-- spec.UvalOk -/
theorem ok49 (v : ByteArray) : CallOK Try.prog 49 [sV v] (bV (uvalOkS v)) [] :=
  callOK tyOK Try.func49 rfl fun w S hS => by
    refine a_seq ?_
    refine a_run [0] tyOK (st1 := mk 6 [(0, sV v)] []) (by kernel_rfl) ?_
    refine a_seq ?_
    refine a_run [2] tyOK (st1 := mk 6 [(2, bV (decide (((v.size : Int)) ≤ 20)))] []) (by kernel_rfl) ?_
    refine a_ret ?_
    have e : uvalOkS v = decide (((v.size : Int)) ≤ 20) := by rw [uvalOkS]
    exact end_eq (res' := bV (decide (((v.size : Int)) ≤ 20))) (by kernel_rfl) (by rw [e] <;> rfl)



def userOkI (k : ByteArray) : Bool := within ((k.size : Int)) 1 8
/-- impl.UserOk -/
theorem ok40 (k : ByteArray) : CallOK Try.prog 40 [sV k] (bV (userOkI k)) [] :=
  callOK tyOK Try.func40 rfl fun w S hS => by
    refine a_seq ?_
    refine a_run [0] tyOK (st1 := mk 6 [(0, sV k)] []) (by kernel_rfl) ?_
    refine a_seq ?_
    refine a_ops [0, 1, 2, 3] (by kernel_rfl) ?_
    refine ao_some [0, 1] [2, 3] [4] tyOK (st1 := mk 6 [(4, iV ((k.size : Int)))] []) (by kernel_rfl) ?_
    refine ao_enter (f := 29) (d := 5) (A := [iV ((k.size : Int)), iV 1, iV 8]) (st1 := mk 6 [(5, bV (within ((k.size : Int)) 1 8))] []) [5] (okwithin ((k.size : Int)) 1 8) Try.call29 (by kernel_rfl) (by kernel_rfl) (by kernel_rfl) ?_
    refine ao_some [3] [] [2] tyOK (st1 := mk 6 [(2, bV (within ((k.size : Int)) 1 8))] []) (by kernel_rfl) ?_
    refine ao_nil ?_
    refine a_ret ?_
    have e : userOkI k = within ((k.size : Int)) 1 8 := by rw [userOkI]
    exact end_eq (res' := bV (within ((k.size : Int)) 1 8)) (by kernel_rfl) (by rw [e] <;> rfl)



def uvalOkI (v : ByteArray) : Bool := decide (((v.size : Int)) ≤ 20)
/-- impl.UvalOk -/
theorem ok41 (v : ByteArray) : CallOK Try.prog 41 [sV v] (bV (uvalOkI v)) [] :=
  callOK tyOK Try.func41 rfl fun w S hS => by
    refine a_seq ?_
    refine a_run [0] tyOK (st1 := mk 6 [(0, sV v)] []) (by kernel_rfl) ?_
    refine a_seq ?_
    refine a_run [2] tyOK (st1 := mk 6 [(2, bV (decide (((v.size : Int)) ≤ 20)))] []) (by kernel_rfl) ?_
    refine a_ret ?_
    have e : uvalOkI v = decide (((v.size : Int)) ≤ 20) := by rw [uvalOkI]
    exact end_eq (res' := bV (decide (((v.size : Int)) ≤ 20))) (by kernel_rfl) (by rw [e] <;> rfl)



def rangeOkS (r : Range) : Bool := bif (bif (decide (((r.lo.size : Int)) > 17)) then true else (decide (((r.hi.size : Int)) > 17))) then false else (bif ((r.hi.toList == ((⟨#[]⟩ : ByteArray)).toList)) then true else (Op.bytesLess r.lo.toList r.hi.toList))
/-- spec.RangeOk -/
theorem ok53 (r : Range) : CallOK Try.prog 53 [.agg [.c (sC r.lo), .c (sC r.hi)]] (bV (rangeOkS r)) [] :=
  callOK tyOK Try.func53 rfl fun w S hS => by
    refine a_seq ?_
    refine a_run [1] tyOK (st1 := mk 23 [(1, .one (.pl [(1, 0)] 0 0))] [(1, [.bx [sC r.lo, sC r.hi]])]) (by kernel_rfl) ?_
    refine a_seq ?_
    refine a_seq ?_
    refine a_mid (mk 23 [(1, .one (.pl [(1, 0)] 0 0)), (12, bV (bif (decide (((r.lo.size : Int)) > 17)) then true else (decide (((r.hi.size : Int)) > 17))))] [(1, [.bx [sC r.lo, sC r.hi]])]) ?_ ?_
    · refine a_ops [0, 1, 2, 3, 4, 5, 6, 7, 8, 9] (by kernel_rfl) ?_
      refine ao_some [0, 1, 2, 3, 4] [5, 6, 7, 8, 9] [1, 7] tyOK (st1 := mk 23 [(1, .one (.pl [(1, 0)] 0 0)), (7, bV (decide (((r.lo.size : Int)) > 17)))] [(1, [.bx [sC r.lo, sC r.hi]])]) (by kernel_rfl) ?_
      rcases Bool.eq_false_or_eq_true (decide (((r.lo.size : Int)) > 17)) with h1 | h1
      · rw [h1]
        have g1 := h1
        try simp only [decide_eq_true_eq, decide_eq_false_iff_not] at g1
        refine ao_some [5, 6, 7, 8, 9] [] [1, 12] tyOK (st1 := mk 23 [(1, .one (.pl [(1, 0)] 0 0)), (12, bV true)] [(1, [.bx [sC r.lo, sC r.hi]])]) (by kernel_rfl) ?_
        exact ao_nil (by show _ = _; kernel_rfl)
      · rw [h1]
        have g1 := h1
        try simp only [decide_eq_true_eq, decide_eq_false_iff_not] at g1
        refine ao_some [5, 6, 7, 8, 9] [] [1, 12] tyOK (st1 := mk 23 [(1, .one (.pl [(1, 0)] 0 0)), (12, bV (decide (((r.hi.size : Int)) > 17)))] [(1, [.bx [sC r.lo, sC r.hi]])]) (by kernel_rfl) ?_
        exact ao_nil (by show _ = _; kernel_rfl)
    refine a_cond (b := bif (decide (((r.lo.size : Int)) > 17)) then true else (decide (((r.hi.size : Int)) > 17))) (by kernel_rfl) (fun h2 => ?_) (fun h2 => ?_)
    · have g2 := h2
      try simp only [decide_eq_true_eq, decide_eq_false_iff_not] at g2
      refine a_seq ?_
      refine a_run [2] tyOK (st1 := mk 23 [(2, bV false)] []) (by kernel_rfl) ?_
      refine a_ret ?_
      have e : rangeOkS r = false := by rw [rangeOkS]; rw [h2, cond_true]
      exact end_eq (res' := bV false) (by kernel_rfl) (by rw [e] <;> rfl)
    · have g2 := h2
      try simp only [decide_eq_true_eq, decide_eq_false_iff_not] at g2
      refine a_skip ?_
      refine a_seq ?_
      refine a_mid (mk 23 [(2, bV (bif ((r.hi.toList == ((⟨#[]⟩ : ByteArray)).toList)) then true else (Op.bytesLess r.lo.toList r.hi.toList)))] []) ?_ ?_
      · refine a_ops [0, 1, 2, 3, 4, 5, 6, 7, 8, 9, 10] (by kernel_rfl) ?_
        refine ao_some [0, 1, 2, 3] [4, 5, 6, 7, 8, 9, 10] [1, 16] tyOK (st1 := mk 23 [(1, .one (.pl [(1, 0)] 0 0)), (16, bV ((r.hi.toList == ((⟨#[]⟩ : ByteArray)).toList)))] [(1, [.bx [sC r.lo, sC r.hi]])]) (by kernel_rfl) ?_
        rcases Bool.eq_false_or_eq_true ((r.hi.toList == ((⟨#[]⟩ : ByteArray)).toList)) with h3 | h3
        · rw [h3]
          have g3 := h3
          try simp only [beq_iff_eq, beq_eq_false_iff_ne] at g3
          refine ao_some [4, 5, 6, 7, 8, 9, 10] [] [2] tyOK (st1 := mk 23 [(2, bV true)] []) (by kernel_rfl) ?_
          exact ao_nil (by show _ = _; kernel_rfl)
        · rw [h3]
          have g3 := h3
          try simp only [beq_iff_eq, beq_eq_false_iff_ne] at g3
          refine ao_some [4, 5, 6, 7, 8, 9, 10] [] [2] tyOK (st1 := mk 23 [(2, bV (Op.bytesLess r.lo.toList r.hi.toList))] []) (by kernel_rfl) ?_
          exact ao_nil (by show _ = _; kernel_rfl)
      refine a_ret ?_
      have e : rangeOkS r = bif ((r.hi.toList == ((⟨#[]⟩ : ByteArray)).toList)) then true else (Op.bytesLess r.lo.toList r.hi.toList) := by rw [rangeOkS]; rw [h2, cond_false]
      exact end_eq (res' := bV (bif ((r.hi.toList == ((⟨#[]⟩ : ByteArray)).toList)) then true else (Op.bytesLess r.lo.toList r.hi.toList))) (by kernel_rfl) (by rw [e] <;> rfl)



def rangeOkI (r : Range) : Bool := bif (decide (((r.lo.size : Int)) ≤ 17)) then (bif (decide (((r.hi.size : Int)) ≤ 17)) then (bif ((r.hi.toList == ((⟨#[]⟩ : ByteArray)).toList)) then true else (!(Op.bytesLess r.hi.toList r.lo.toList || r.hi.toList == r.lo.toList))) else false) else false
/-- impl.RangeOk -/
theorem ok50 (r : Range) : CallOK Try.prog 50 [.agg [.c (sC r.lo), .c (sC r.hi)]] (bV (rangeOkI r)) [] :=
  callOK tyOK Try.func50 rfl fun w S hS => by
    refine a_seq ?_
    refine a_run [1] tyOK (st1 := mk 25 [(1, .one (.pl [(1, 0)] 0 0))] [(1, [.bx [sC r.lo, sC r.hi]])]) (by kernel_rfl) ?_
    refine a_seq ?_
    refine a_mid (mk 25 [(2, bV (bif (decide (((r.lo.size : Int)) ≤ 17)) then (bif (decide (((r.hi.size : Int)) ≤ 17)) then (bif ((r.hi.toList == ((⟨#[]⟩ : ByteArray)).toList)) then true else (!(Op.bytesLess r.hi.toList r.lo.toList || r.hi.toList == r.lo.toList))) else false) else false))] []) ?_ ?_
    · refine a_ops [0, 1, 2, 3, 4, 5, 6, 7, 8, 9, 10, 11, 12, 13, 14, 15, 16, 17, 18, 19, 20, 21, 22] (by kernel_rfl) ?_
      refine ao_some [0, 1, 2, 3, 4] [5, 6, 7, 8, 9, 10, 11, 12, 13, 14, 15, 16, 17, 18, 19, 20, 21, 22] [1, 7] tyOK (st1 := mk 25 [(1, .one (.pl [(1, 0)] 0 0)), (7, bV (decide (((r.lo.size : Int)) ≤ 17)))] [(1, [.bx [sC r.lo, sC r.hi]])]) (by kernel_rfl) ?_
      rcases Bool.eq_false_or_eq_true (decide (((r.lo.size : Int)) ≤ 17)) with h1 | h1
      · rw [h1]
        have g1 := h1
        try simp only [decide_eq_true_eq, decide_eq_false_iff_not] at g1
        refine ao_some [5, 6, 7, 8, 9, 10] [11, 12, 13, 14, 15, 16, 17, 18, 19, 20, 21, 22] [1, 13] tyOK (st1 := mk 25 [(1, .one (.pl [(1, 0)] 0 0)), (13, bV (decide (((r.hi.size : Int)) ≤ 17)))] [(1, [.bx [sC r.lo, sC r.hi]])]) (by kernel_rfl) ?_
        rcases Bool.eq_false_or_eq_true (decide (((r.hi.size : Int)) ≤ 17)) with h2 | h2
        · rw [h2]
          have g2 := h2
          try simp only [decide_eq_true_eq, decide_eq_false_iff_not] at g2
          refine ao_some [11, 12, 13, 14] [15, 16, 17, 18, 19, 20, 21, 22] [1, 13, 17] tyOK (st1 := mk 25 [(1, .one (.pl [(1, 0)] 0 0)), (13, bV true), (17, bV ((r.hi.toList == ((⟨#[]⟩ : ByteArray)).toList)))] [(1, [.bx [sC r.lo, sC r.hi]])]) (by kernel_rfl) ?_
          rcases Bool.eq_false_or_eq_true ((r.hi.toList == ((⟨#[]⟩ : ByteArray)).toList)) with h3 | h3
          · rw [h3]
            have g3 := h3
            try simp only [beq_iff_eq, beq_eq_false_iff_ne] at g3
            refine ao_some [15, 16, 17, 18, 19, 20, 21, 22] [] [2] tyOK (st1 := mk 25 [(2, bV true)] []) (by kernel_rfl) ?_
            exact ao_nil (by show _ = _; kernel_rfl)
          · rw [h3]
            have g3 := h3
            try simp only [beq_iff_eq, beq_eq_false_iff_ne] at g3
            refine ao_some [15, 16, 17, 18, 19, 20, 21, 22] [] [2] tyOK (st1 := mk 25 [(2, bV (!(Op.bytesLess r.hi.toList r.lo.toList || r.hi.toList == r.lo.toList)))] []) (by kernel_rfl) ?_
            exact ao_nil (by show _ = _; kernel_rfl)
        · rw [h2]
          have g2 := h2
          try simp only [decide_eq_true_eq, decide_eq_false_iff_not] at g2
          refine ao_some [11, 12, 13, 14, 15, 16, 17, 18, 19, 20, 21, 22] [] [2] tyOK (st1 := mk 25 [(2, bV false)] []) (by kernel_rfl) ?_
          exact ao_nil (by show _ = _; kernel_rfl)
      · rw [h1]
        have g1 := h1
        try simp only [decide_eq_true_eq, decide_eq_false_iff_not] at g1
        refine ao_some [5, 6, 7, 8, 9, 10, 11, 12, 13, 14, 15, 16, 17, 18, 19, 20, 21, 22] [] [2] tyOK (st1 := mk 25 [(2, bV false)] []) (by kernel_rfl) ?_
        exact ao_nil (by show _ = _; kernel_rfl)
    refine a_ret ?_
    have e : rangeOkI r = bif (decide (((r.lo.size : Int)) ≤ 17)) then (bif (decide (((r.hi.size : Int)) ≤ 17)) then (bif ((r.hi.toList == ((⟨#[]⟩ : ByteArray)).toList)) then true else (!(Op.bytesLess r.hi.toList r.lo.toList || r.hi.toList == r.lo.toList))) else false) else false := by rw [rangeOkI]
    exact end_eq (res' := bV (bif (decide (((r.lo.size : Int)) ≤ 17)) then (bif (decide (((r.hi.size : Int)) ≤ 17)) then (bif ((r.hi.toList == ((⟨#[]⟩ : ByteArray)).toList)) then true else (!(Op.bytesLess r.hi.toList r.lo.toList || r.hi.toList == r.lo.toList))) else false) else false)) (by kernel_rfl) (by rw [e] <;> rfl)



def reachOkS (r : Range) : Bool := bif (rangeOkS r) then (bif (decide (((r.lo.size : Int)) ≤ 9)) then (decide (((r.hi.size : Int)) ≤ 9)) else false) else false
/-- spec.ReachOk -/
theorem ok47 (r : Range) : CallOK Try.prog 47 [.agg [.c (sC r.lo), .c (sC r.hi)]] (bV (reachOkS r)) [] :=
  callOK tyOK Try.func47 rfl fun w S hS => by
    refine a_seq ?_
    refine a_run [1] tyOK (st1 := mk 17 [(1, .one (.pl [(1, 0)] 0 0))] [(1, [.bx [sC r.lo, sC r.hi]])]) (by kernel_rfl) ?_
    refine a_seq ?_
    refine a_mid (mk 17 [(2, bV (bif (rangeOkS r) then (bif (decide (((r.lo.size : Int)) ≤ 9)) then (decide (((r.hi.size : Int)) ≤ 9)) else false) else false))] []) ?_ ?_
    · refine a_ops [0, 1, 2, 3, 4, 5, 6, 7, 8, 9, 10, 11, 12, 13, 14] (by kernel_rfl) ?_
      refine ao_some [0] [1, 2, 3, 4, 5, 6, 7, 8, 9, 10, 11, 12, 13, 14] [1, 3] tyOK (st1 := mk 17 [(1, .one (.pl [(1, 0)] 0 0)), (3, .agg [.c (sC r.lo), .c (sC r.hi)])] [(1, [.bx [sC r.lo, sC r.hi]])]) (by kernel_rfl) ?_
      refine ao_enter (f := 53) (d := 4) (A := [.agg [.c (sC r.lo), .c (sC r.hi)]]) (st1 := mk 17 [(1, .one (.pl [(1, 0)] 0 0)), (4, bV (rangeOkS r))] [(1, [.bx [sC r.lo, sC r.hi]])]) [1, 4] (ok53 r) Try.call53 (by kernel_rfl) (by kernel_rfl) (by kernel_rfl) ?_
      refine ao_some [2] [3, 4, 5, 6, 7, 8, 9, 10, 11, 12, 13, 14] [1, 5] tyOK (st1 := mk 17 [(1, .one (.pl [(1, 0)] 0 0)), (5, bV (rangeOkS r))] [(1, [.bx [sC r.lo, sC r.hi]])]) (by kernel_rfl) ?_
      rcases Bool.eq_false_or_eq_true (rangeOkS r) with h1 | h1
      · rw [h1]
        have g1 := h1
        refine ao_some [3, 4, 5, 6, 7, 8] [9, 10, 11, 12, 13, 14] [1, 11] tyOK (st1 := mk 17 [(1, .one (.pl [(1, 0)] 0 0)), (11, bV (decide (((r.lo.size : Int)) ≤ 9)))] [(1, [.bx [sC r.lo, sC r.hi]])]) (by kernel_rfl) ?_
        rcases Bool.eq_false_or_eq_true (decide (((r.lo.size : Int)) ≤ 9)) with h2 | h2
        · rw [h2]
          have g2 := h2
          try simp only [decide_eq_true_eq, decide_eq_false_iff_not] at g2
          refine ao_some [9, 10, 11, 12, 13, 14] [] [2] tyOK (st1 := mk 17 [(2, bV (decide (((r.hi.size : Int)) ≤ 9)))] []) (by kernel_rfl) ?_
          exact ao_nil (by show _ = _; kernel_rfl)
        · rw [h2]
          have g2 := h2
          try simp only [decide_eq_true_eq, decide_eq_false_iff_not] at g2
          refine ao_some [9, 10, 11, 12, 13, 14] [] [2] tyOK (st1 := mk 17 [(2, bV false)] []) (by kernel_rfl) ?_
          exact ao_nil (by show _ = _; kernel_rfl)
      · rw [h1]
        have g1 := h1
        refine ao_some [3, 4, 5, 6, 7, 8, 9, 10, 11, 12, 13, 14] [] [2] tyOK (st1 := mk 17 [(2, bV false)] []) (by kernel_rfl) ?_
        exact ao_nil (by show _ = _; kernel_rfl)
    refine a_ret ?_
    have e : reachOkS r = bif (rangeOkS r) then (bif (decide (((r.lo.size : Int)) ≤ 9)) then (decide (((r.hi.size : Int)) ≤ 9)) else false) else false := by rw [reachOkS]
    exact end_eq (res' := bV (bif (rangeOkS r) then (bif (decide (((r.lo.size : Int)) ≤ 9)) then (decide (((r.hi.size : Int)) ≤ 9)) else false) else false)) (by kernel_rfl) (by rw [e] <;> rfl)



def reachOkI (r : Range) : Bool := bif (rangeOkI r) then (bif (decide (((r.lo.size : Int)) ≤ 9)) then (decide (((r.hi.size : Int)) ≤ 9)) else false) else false
/-- impl.ReachOk -/
theorem ok42 (r : Range) : CallOK Try.prog 42 [.agg [.c (sC r.lo), .c (sC r.hi)]] (bV (reachOkI r)) [] :=
  callOK tyOK Try.func42 rfl fun w S hS => by
    refine a_seq ?_
    refine a_run [1] tyOK (st1 := mk 17 [(1, .one (.pl [(1, 0)] 0 0))] [(1, [.bx [sC r.lo, sC r.hi]])]) (by kernel_rfl) ?_
    refine a_seq ?_
    refine a_mid (mk 17 [(2, bV (bif (rangeOkI r) then (bif (decide (((r.lo.size : Int)) ≤ 9)) then (decide (((r.hi.size : Int)) ≤ 9)) else false) else false))] []) ?_ ?_
    · refine a_ops [0, 1, 2, 3, 4, 5, 6, 7, 8, 9, 10, 11, 12, 13, 14] (by kernel_rfl) ?_
      refine ao_some [0] [1, 2, 3, 4, 5, 6, 7, 8, 9, 10, 11, 12, 13, 14] [1, 3] tyOK (st1 := mk 17 [(1, .one (.pl [(1, 0)] 0 0)), (3, .agg [.c (sC r.lo), .c (sC r.hi)])] [(1, [.bx [sC r.lo, sC r.hi]])]) (by kernel_rfl) ?_
      refine ao_enter (f := 50) (d := 4) (A := [.agg [.c (sC r.lo), .c (sC r.hi)]]) (st1 := mk 17 [(1, .one (.pl [(1, 0)] 0 0)), (4, bV (rangeOkI r))] [(1, [.bx [sC r.lo, sC r.hi]])]) [1, 4] (ok50 r) Try.call50 (by kernel_rfl) (by kernel_rfl) (by kernel_rfl) ?_
      refine ao_some [2] [3, 4, 5, 6, 7, 8, 9, 10, 11, 12, 13, 14] [1, 5] tyOK (st1 := mk 17 [(1, .one (.pl [(1, 0)] 0 0)), (5, bV (rangeOkI r))] [(1, [.bx [sC r.lo, sC r.hi]])]) (by kernel_rfl) ?_
      rcases Bool.eq_false_or_eq_true (rangeOkI r) with h1 | h1
      · rw [h1]
        have g1 := h1
        refine ao_some [3, 4, 5, 6, 7, 8] [9, 10, 11, 12, 13, 14] [1, 11] tyOK (st1 := mk 17 [(1, .one (.pl [(1, 0)] 0 0)), (11, bV (decide (((r.lo.size : Int)) ≤ 9)))] [(1, [.bx [sC r.lo, sC r.hi]])]) (by kernel_rfl) ?_
        rcases Bool.eq_false_or_eq_true (decide (((r.lo.size : Int)) ≤ 9)) with h2 | h2
        · rw [h2]
          have g2 := h2
          try simp only [decide_eq_true_eq, decide_eq_false_iff_not] at g2
          refine ao_some [9, 10, 11, 12, 13, 14] [] [2] tyOK (st1 := mk 17 [(2, bV (decide (((r.hi.size : Int)) ≤ 9)))] []) (by kernel_rfl) ?_
          exact ao_nil (by show _ = _; kernel_rfl)
        · rw [h2]
          have g2 := h2
          try simp only [decide_eq_true_eq, decide_eq_false_iff_not] at g2
          refine ao_some [9, 10, 11, 12, 13, 14] [] [2] tyOK (st1 := mk 17 [(2, bV false)] []) (by kernel_rfl) ?_
          exact ao_nil (by show _ = _; kernel_rfl)
      · rw [h1]
        have g1 := h1
        refine ao_some [3, 4, 5, 6, 7, 8, 9, 10, 11, 12, 13, 14] [] [2] tyOK (st1 := mk 17 [(2, bV false)] []) (by kernel_rfl) ?_
        exact ao_nil (by show _ = _; kernel_rfl)
    refine a_ret ?_
    have e : reachOkI r = bif (rangeOkI r) then (bif (decide (((r.lo.size : Int)) ≤ 9)) then (decide (((r.hi.size : Int)) ≤ 9)) else false) else false := by rw [reachOkI]
    exact end_eq (res' := bV (bif (rangeOkI r) then (bif (decide (((r.lo.size : Int)) ≤ 9)) then (decide (((r.hi.size : Int)) ≤ 9)) else false) else false)) (by kernel_rfl) (by rw [e] <;> rfl)



def askOkS (q : Ask) : Bool := bif ((q.kind == 4)) then (bif ((q.key.toList == ((⟨#[]⟩ : ByteArray)).toList)) then (bif ((q.val.toList == ((⟨#[]⟩ : ByteArray)).toList)) then (bif (reachOkS q.range) then (bif (decide (q.most ≥ 1)) then (decide (q.most ≤ 8)) else false) else false) else false) else false) else (bif (bif ((q.kind != 2)) then (!(q.val.toList == ((⟨#[]⟩ : ByteArray)).toList)) else false) then false else (bif (decide (q.kind ≥ 1)) then (bif (decide (q.kind ≤ 3)) then (bif (userOkS q.key) then (bif (uvalOkS q.val) then (bif (((q.range.lo.toList == ((⟨#[]⟩ : ByteArray)).toList) && ((q.range.hi.toList == ((⟨#[]⟩ : ByteArray)).toList) && true))) then (bif ((q.most == 0)) then (!q.back) else false) else false) else false) else false) else false) else false))
/-- spec.AskOk -/
theorem ok37 (q : Ask) : CallOK Try.prog 37 [.agg [.c (iC q.kind), .c (sC q.key), .c (sC q.val), .c (sC q.range.lo), .c (sC q.range.hi), .c (iC q.most), .c (bC q.back)]] (bV (askOkS q)) [] :=
  callOK tyOK Try.func37 rfl fun w S hS => by
    refine a_seq ?_
    refine a_run [1] tyOK (st1 := mk 73 [(1, .one (.pl [(1, 0)] 0 0))] [(1, [.bx [iC q.kind, sC q.key, sC q.val, sC q.range.lo, sC q.range.hi, iC q.most, bC q.back]])]) (by kernel_rfl) ?_
    refine a_seq ?_
    refine a_run [1, 3] tyOK (st1 := mk 73 [(1, .one (.pl [(1, 0)] 0 0)), (3, .one (.pl [(3, 0)] 0 0))] [(1, [.bx [iC q.kind, sC q.key, sC q.val, sC q.range.lo, sC q.range.hi, iC q.most, bC q.back]]), (3, [.bx [sC ((⟨#[]⟩ : ByteArray)), sC ((⟨#[]⟩ : ByteArray))]])]) (by kernel_rfl) ?_
    refine a_seq ?_
    refine a_seq ?_
    refine a_run [1, 3, 7] tyOK (st1 := mk 73 [(1, .one (.pl [(1, 0)] 0 0)), (3, .one (.pl [(3, 0)] 0 0)), (7, bV ((q.kind == 4)))] [(1, [.bx [iC q.kind, sC q.key, sC q.val, sC q.range.lo, sC q.range.hi, iC q.most, bC q.back]]), (3, [.bx [sC ((⟨#[]⟩ : ByteArray)), sC ((⟨#[]⟩ : ByteArray))]])]) (by kernel_rfl) ?_
    refine a_cond (b := (q.kind == 4)) (by kernel_rfl) (fun h1 => ?_) (fun h1 => ?_)
    · have g1 := h1
      try simp only [beq_iff_eq, beq_eq_false_iff_ne] at g1
      refine a_seq ?_
      refine a_mid (mk 73 [(2, bV (bif ((q.key.toList == ((⟨#[]⟩ : ByteArray)).toList)) then (bif ((q.val.toList == ((⟨#[]⟩ : ByteArray)).toList)) then (bif (reachOkS q.range) then (bif (decide (q.most ≥ 1)) then (decide (q.most ≤ 8)) else false) else false) else false) else false))] []) ?_ ?_
      · refine a_ops [0, 1, 2, 3, 4, 5, 6, 7, 8, 9, 10, 11, 12, 13, 14, 15, 16, 17, 18, 19, 20, 21, 22, 23] (by kernel_rfl) ?_
        refine ao_some [0, 1, 2, 3] [4, 5, 6, 7, 8, 9, 10, 11, 12, 13, 14, 15, 16, 17, 18, 19, 20, 21, 22, 23] [1, 11] tyOK (st1 := mk 73 [(1, .one (.pl [(1, 0)] 0 0)), (11, bV ((q.key.toList == ((⟨#[]⟩ : ByteArray)).toList)))] [(1, [.bx [iC q.kind, sC q.key, sC q.val, sC q.range.lo, sC q.range.hi, iC q.most, bC q.back]])]) (by kernel_rfl) ?_
        rcases Bool.eq_false_or_eq_true ((q.key.toList == ((⟨#[]⟩ : ByteArray)).toList)) with h2 | h2
        · rw [h2]
          have g2 := h2
          try simp only [beq_iff_eq, beq_eq_false_iff_ne] at g2
          refine ao_some [4, 5, 6, 7, 8] [9, 10, 11, 12, 13, 14, 15, 16, 17, 18, 19, 20, 21, 22, 23] [1, 16] tyOK (st1 := mk 73 [(1, .one (.pl [(1, 0)] 0 0)), (16, bV ((q.val.toList == ((⟨#[]⟩ : ByteArray)).toList)))] [(1, [.bx [iC q.kind, sC q.key, sC q.val, sC q.range.lo, sC q.range.hi, iC q.most, bC q.back]])]) (by kernel_rfl) ?_
          rcases Bool.eq_false_or_eq_true ((q.val.toList == ((⟨#[]⟩ : ByteArray)).toList)) with h3 | h3
          · rw [h3]
            have g3 := h3
            try simp only [beq_iff_eq, beq_eq_false_iff_ne] at g3
            refine ao_some [9, 10] [11, 12, 13, 14, 15, 16, 17, 18, 19, 20, 21, 22, 23] [1, 16, 18] tyOK (st1 := mk 73 [(1, .one (.pl [(1, 0)] 0 0)), (16, bV true), (18, .agg [.c (sC q.range.lo), .c (sC q.range.hi)])] [(1, [.bx [iC q.kind, sC q.key, sC q.val, sC q.range.lo, sC q.range.hi, iC q.most, bC q.back]])]) (by kernel_rfl) ?_
            refine ao_enter (f := 47) (d := 19) (A := [.agg [.c (sC q.range.lo), .c (sC q.range.hi)]]) (st1 := mk 73 [(1, .one (.pl [(1, 0)] 0 0)), (16, bV true), (19, bV (reachOkS q.range))] [(1, [.bx [iC q.kind, sC q.key, sC q.val, sC q.range.lo, sC q.range.hi, iC q.most, bC q.back]])]) [1, 16, 19] (ok47 q.range) Try.call47 (by kernel_rfl) (by kernel_rfl) (by kernel_rfl) ?_
            refine ao_some [12, 13] [14, 15, 16, 17, 18, 19, 20, 21, 22, 23] [1, 21] tyOK (st1 := mk 73 [(1, .one (.pl [(1, 0)] 0 0)), (21, bV (reachOkS q.range))] [(1, [.bx [iC q.kind, sC q.key, sC q.val, sC q.range.lo, sC q.range.hi, iC q.most, bC q.back]])]) (by kernel_rfl) ?_
            rcases Bool.eq_false_or_eq_true (reachOkS q.range) with h4 | h4
            · rw [h4]
              have g4 := h4
              refine ao_some [14, 15, 16, 17, 18] [19, 20, 21, 22, 23] [1, 26] tyOK (st1 := mk 73 [(1, .one (.pl [(1, 0)] 0 0)), (26, bV (decide (q.most ≥ 1)))] [(1, [.bx [iC q.kind, sC q.key, sC q.val, sC q.range.lo, sC q.range.hi, iC q.most, bC q.back]])]) (by kernel_rfl) ?_
              rcases Bool.eq_false_or_eq_true (decide (q.most ≥ 1)) with h5 | h5
              · rw [h5]
                have g5 := h5
                try simp only [decide_eq_true_eq, decide_eq_false_iff_not] at g5
                refine ao_some [19, 20, 21, 22, 23] [] [2] tyOK (st1 := mk 73 [(2, bV (decide (q.most ≤ 8)))] []) (by kernel_rfl) ?_
                exact ao_nil (by show _ = _; kernel_rfl)
              · rw [h5]
                have g5 := h5
                try simp only [decide_eq_true_eq, decide_eq_false_iff_not] at g5
                refine ao_some [19, 20, 21, 22, 23] [] [2] tyOK (st1 := mk 73 [(2, bV false)] []) (by kernel_rfl) ?_
                exact ao_nil (by show _ = _; kernel_rfl)
            · rw [h4]
              have g4 := h4
              refine ao_some [14, 15, 16, 17, 18, 19, 20, 21, 22, 23] [] [2] tyOK (st1 := mk 73 [(2, bV false)] []) (by kernel_rfl) ?_
              exact ao_nil (by show _ = _; kernel_rfl)
          · rw [h3]
            have g3 := h3
            try simp only [beq_iff_eq, beq_eq_false_iff_ne] at g3
            refine ao_some [9, 10, 11, 12, 13, 14, 15, 16, 17, 18, 19, 20, 21, 22, 23] [] [2] tyOK (st1 := mk 73 [(2, bV false)] []) (by kernel_rfl) ?_
            exact ao_nil (by show _ = _; kernel_rfl)
        · rw [h2]
          have g2 := h2
          try simp only [beq_iff_eq, beq_eq_false_iff_ne] at g2
          refine ao_some [4, 5, 6, 7, 8, 9, 10, 11, 12, 13, 14, 15, 16, 17, 18, 19, 20, 21, 22, 23] [] [2] tyOK (st1 := mk 73 [(2, bV false)] []) (by kernel_rfl) ?_
          exact ao_nil (by show _ = _; kernel_rfl)
      refine a_ret ?_
      have e : askOkS q = bif ((q.key.toList == ((⟨#[]⟩ : ByteArray)).toList)) then (bif ((q.val.toList == ((⟨#[]⟩ : ByteArray)).toList)) then (bif (reachOkS q.range) then (bif (decide (q.most ≥ 1)) then (decide (q.most ≤ 8)) else false) else false) else false) else false := by rw [askOkS]; rw [h1, cond_true]
      exact end_eq (res' := bV (bif ((q.key.toList == ((⟨#[]⟩ : ByteArray)).toList)) then (bif ((q.val.toList == ((⟨#[]⟩ : ByteArray)).toList)) then (bif (reachOkS q.range) then (bif (decide (q.most ≥ 1)) then (decide (q.most ≤ 8)) else false) else false) else false) else false)) (by kernel_rfl) (by rw [e] <;> rfl)
    · have g1 := h1
      try simp only [beq_iff_eq, beq_eq_false_iff_ne] at g1
      refine a_skip ?_
      refine a_seq ?_
      refine a_seq ?_
      refine a_mid (mk 73 [(1, .one (.pl [(1, 0)] 0 0)), (3, .one (.pl [(3, 0)] 0 0)), (38, bV (bif ((q.kind != 2)) then (!(q.val.toList == ((⟨#[]⟩ : ByteArray)).toList)) else false))] [(1, [.bx [iC q.kind, sC q.key, sC q.val, sC q.range.lo, sC q.range.hi, iC q.most, bC q.back]]), (3, [.bx [sC ((⟨#[]⟩ : ByteArray)), sC ((⟨#[]⟩ : ByteArray))]])]) ?_ ?_
      · refine a_ops [0, 1, 2, 3, 4, 5, 6, 7] (by kernel_rfl) ?_
        refine ao_some [0, 1, 2, 3] [4, 5, 6, 7] [1, 3, 34] tyOK (st1 := mk 73 [(1, .one (.pl [(1, 0)] 0 0)), (3, .one (.pl [(3, 0)] 0 0)), (34, bV ((q.kind != 2)))] [(1, [.bx [iC q.kind, sC q.key, sC q.val, sC q.range.lo, sC q.range.hi, iC q.most, bC q.back]]), (3, [.bx [sC ((⟨#[]⟩ : ByteArray)), sC ((⟨#[]⟩ : ByteArray))]])]) (by kernel_rfl) ?_
        rcases Bool.eq_false_or_eq_true ((q.kind != 2)) with h6 | h6
        · rw [h6]
          have g6 := h6
          try simp only [bne_iff_ne, bne_eq_false_iff_eq, ne_eq] at g6
          refine ao_some [4, 5, 6, 7] [] [1, 3, 38] tyOK (st1 := mk 73 [(1, .one (.pl [(1, 0)] 0 0)), (3, .one (.pl [(3, 0)] 0 0)), (38, bV (!(q.val.toList == ((⟨#[]⟩ : ByteArray)).toList)))] [(1, [.bx [iC q.kind, sC q.key, sC q.val, sC q.range.lo, sC q.range.hi, iC q.most, bC q.back]]), (3, [.bx [sC ((⟨#[]⟩ : ByteArray)), sC ((⟨#[]⟩ : ByteArray))]])]) (by kernel_rfl) ?_
          exact ao_nil (by show _ = _; kernel_rfl)
        · rw [h6]
          have g6 := h6
          try simp only [bne_iff_ne, bne_eq_false_iff_eq, ne_eq] at g6
          refine ao_some [4, 5, 6, 7] [] [1, 3, 38] tyOK (st1 := mk 73 [(1, .one (.pl [(1, 0)] 0 0)), (3, .one (.pl [(3, 0)] 0 0)), (38, bV false)] [(1, [.bx [iC q.kind, sC q.key, sC q.val, sC q.range.lo, sC q.range.hi, iC q.most, bC q.back]]), (3, [.bx [sC ((⟨#[]⟩ : ByteArray)), sC ((⟨#[]⟩ : ByteArray))]])]) (by kernel_rfl) ?_
          exact ao_nil (by show _ = _; kernel_rfl)
      refine a_cond (b := bif ((q.kind != 2)) then (!(q.val.toList == ((⟨#[]⟩ : ByteArray)).toList)) else false) (by kernel_rfl) (fun h7 => ?_) (fun h7 => ?_)
      · have g7 := h7
        try simp only [bne_iff_ne, bne_eq_false_iff_eq, ne_eq, beq_iff_eq, beq_eq_false_iff_ne, Bool.not_eq_true, Bool.not_eq_false, Bool.not_eq_true'] at g7
        refine a_seq ?_
        refine a_run [2] tyOK (st1 := mk 73 [(2, bV false)] []) (by kernel_rfl) ?_
        refine a_ret ?_
        have e : askOkS q = false := by rw [askOkS]; rw [h1, cond_false, h7, cond_true]
        exact end_eq (res' := bV false) (by kernel_rfl) (by rw [e] <;> rfl)
      · have g7 := h7
        try simp only [bne_iff_ne, bne_eq_false_iff_eq, ne_eq, beq_iff_eq, beq_eq_false_iff_ne, Bool.not_eq_true, Bool.not_eq_false, Bool.not_eq_true'] at g7
        refine a_skip ?_
        refine a_seq ?_
        refine a_mid (mk 73 [(2, bV (bif (decide (q.kind ≥ 1)) then (bif (decide (q.kind ≤ 3)) then (bif (userOkS q.key) then (bif (uvalOkS q.val) then (bif (((q.range.lo.toList == ((⟨#[]⟩ : ByteArray)).toList) && ((q.range.hi.toList == ((⟨#[]⟩ : ByteArray)).toList) && true))) then (bif ((q.most == 0)) then (!q.back) else false) else false) else false) else false) else false) else false))] []) ?_ ?_
        · refine a_ops [0, 1, 2, 3, 4, 5, 6, 7, 8, 9, 10, 11, 12, 13, 14, 15, 16, 17, 18, 19, 20, 21, 22, 23, 24, 25, 26, 27, 28, 29, 30, 31, 32, 33, 34] (by kernel_rfl) ?_
          refine ao_some [0, 1, 2, 3] [4, 5, 6, 7, 8, 9, 10, 11, 12, 13, 14, 15, 16, 17, 18, 19, 20, 21, 22, 23, 24, 25, 26, 27, 28, 29, 30, 31, 32, 33, 34] [1, 3, 42] tyOK (st1 := mk 73 [(1, .one (.pl [(1, 0)] 0 0)), (3, .one (.pl [(3, 0)] 0 0)), (42, bV (decide (q.kind ≥ 1)))] [(1, [.bx [iC q.kind, sC q.key, sC q.val, sC q.range.lo, sC q.range.hi, iC q.most, bC q.back]]), (3, [.bx [sC ((⟨#[]⟩ : ByteArray)), sC ((⟨#[]⟩ : ByteArray))]])]) (by kernel_rfl) ?_
          rcases Bool.eq_false_or_eq_true (decide (q.kind ≥ 1)) with h8 | h8
          · rw [h8]
            have g8 := h8
            try simp only [decide_eq_true_eq, decide_eq_false_iff_not] at g8
            refine ao_some [4, 5, 6, 7, 8] [9, 10, 11, 12, 13, 14, 15, 16, 17, 18, 19, 20, 21, 22, 23, 24, 25, 26, 27, 28, 29, 30, 31, 32, 33, 34] [1, 3, 47] tyOK (st1 := mk 73 [(1, .one (.pl [(1, 0)] 0 0)), (3, .one (.pl [(3, 0)] 0 0)), (47, bV (decide (q.kind ≤ 3)))] [(1, [.bx [iC q.kind, sC q.key, sC q.val, sC q.range.lo, sC q.range.hi, iC q.most, bC q.back]]), (3, [.bx [sC ((⟨#[]⟩ : ByteArray)), sC ((⟨#[]⟩ : ByteArray))]])]) (by kernel_rfl) ?_
            rcases Bool.eq_false_or_eq_true (decide (q.kind ≤ 3)) with h9 | h9
            · rw [h9]
              have g9 := h9
              try simp only [decide_eq_true_eq, decide_eq_false_iff_not] at g9
              refine ao_some [9, 10] [11, 12, 13, 14, 15, 16, 17, 18, 19, 20, 21, 22, 23, 24, 25, 26, 27, 28, 29, 30, 31, 32, 33, 34] [1, 3, 47, 49] tyOK (st1 := mk 73 [(1, .one (.pl [(1, 0)] 0 0)), (3, .one (.pl [(3, 0)] 0 0)), (47, bV true), (49, sV q.key)] [(1, [.bx [iC q.kind, sC q.key, sC q.val, sC q.range.lo, sC q.range.hi, iC q.most, bC q.back]]), (3, [.bx [sC ((⟨#[]⟩ : ByteArray)), sC ((⟨#[]⟩ : ByteArray))]])]) (by kernel_rfl) ?_
              refine ao_enter (f := 48) (d := 50) (A := [sV q.key]) (st1 := mk 73 [(1, .one (.pl [(1, 0)] 0 0)), (3, .one (.pl [(3, 0)] 0 0)), (47, bV true), (50, bV (userOkS q.key))] [(1, [.bx [iC q.kind, sC q.key, sC q.val, sC q.range.lo, sC q.range.hi, iC q.most, bC q.back]]), (3, [.bx [sC ((⟨#[]⟩ : ByteArray)), sC ((⟨#[]⟩ : ByteArray))]])]) [1, 3, 47, 50] (ok48 q.key) Try.call48 (by kernel_rfl) (by kernel_rfl) (by kernel_rfl) ?_
              refine ao_some [12, 13] [14, 15, 16, 17, 18, 19, 20, 21, 22, 23, 24, 25, 26, 27, 28, 29, 30, 31, 32, 33, 34] [1, 3, 52] tyOK (st1 := mk 73 [(1, .one (.pl [(1, 0)] 0 0)), (3, .one (.pl [(3, 0)] 0 0)), (52, bV (userOkS q.key))] [(1, [.bx [iC q.kind, sC q.key, sC q.val, sC q.range.lo, sC q.range.hi, iC q.most, bC q.back]]), (3, [.bx [sC ((⟨#[]⟩ : ByteArray)), sC ((⟨#[]⟩ : ByteArray))]])]) (by kernel_rfl) ?_
              rcases Bool.eq_false_or_eq_true (userOkS q.key) with h10 | h10
              · rw [h10]
                have g10 := h10
                refine ao_some [14, 15] [16, 17, 18, 19, 20, 21, 22, 23, 24, 25, 26, 27, 28, 29, 30, 31, 32, 33, 34] [1, 3, 52, 54] tyOK (st1 := mk 73 [(1, .one (.pl [(1, 0)] 0 0)), (3, .one (.pl [(3, 0)] 0 0)), (52, bV true), (54, sV q.val)] [(1, [.bx [iC q.kind, sC q.key, sC q.val, sC q.range.lo, sC q.range.hi, iC q.most, bC q.back]]), (3, [.bx [sC ((⟨#[]⟩ : ByteArray)), sC ((⟨#[]⟩ : ByteArray))]])]) (by kernel_rfl) ?_
                refine ao_enter (f := 49) (d := 55) (A := [sV q.val]) (st1 := mk 73 [(1, .one (.pl [(1, 0)] 0 0)), (3, .one (.pl [(3, 0)] 0 0)), (52, bV true), (55, bV (uvalOkS q.val))] [(1, [.bx [iC q.kind, sC q.key, sC q.val, sC q.range.lo, sC q.range.hi, iC q.most, bC q.back]]), (3, [.bx [sC ((⟨#[]⟩ : ByteArray)), sC ((⟨#[]⟩ : ByteArray))]])]) [1, 3, 52, 55] (ok49 q.val) Try.call49 (by kernel_rfl) (by kernel_rfl) (by kernel_rfl) ?_
                refine ao_some [17, 18] [19, 20, 21, 22, 23, 24, 25, 26, 27, 28, 29, 30, 31, 32, 33, 34] [1, 3, 57] tyOK (st1 := mk 73 [(1, .one (.pl [(1, 0)] 0 0)), (3, .one (.pl [(3, 0)] 0 0)), (57, bV (uvalOkS q.val))] [(1, [.bx [iC q.kind, sC q.key, sC q.val, sC q.range.lo, sC q.range.hi, iC q.most, bC q.back]]), (3, [.bx [sC ((⟨#[]⟩ : ByteArray)), sC ((⟨#[]⟩ : ByteArray))]])]) (by kernel_rfl) ?_
                rcases Bool.eq_false_or_eq_true (uvalOkS q.val) with h11 | h11
                · rw [h11]
                  have g11 := h11
                  refine ao_some [19, 20, 21, 22, 23, 24] [25, 26, 27, 28, 29, 30, 31, 32, 33, 34] [1, 63] tyOK (st1 := mk 73 [(1, .one (.pl [(1, 0)] 0 0)), (63, bV (((q.range.lo.toList == ((⟨#[]⟩ : ByteArray)).toList) && ((q.range.hi.toList == ((⟨#[]⟩ : ByteArray)).toList) && true))))] [(1, [.bx [iC q.kind, sC q.key, sC q.val, sC q.range.lo, sC q.range.hi, iC q.most, bC q.back]])]) (by kernel_rfl) ?_
                  rcases Bool.eq_false_or_eq_true (((q.range.lo.toList == ((⟨#[]⟩ : ByteArray)).toList) && ((q.range.hi.toList == ((⟨#[]⟩ : ByteArray)).toList) && true))) with h12 | h12
                  · rw [h12]
                    have g12 := h12
                    try simp only [beq_iff_eq, beq_eq_false_iff_ne] at g12
                    refine ao_some [25, 26, 27, 28, 29] [30, 31, 32, 33, 34] [1, 68] tyOK (st1 := mk 73 [(1, .one (.pl [(1, 0)] 0 0)), (68, bV ((q.most == 0)))] [(1, [.bx [iC q.kind, sC q.key, sC q.val, sC q.range.lo, sC q.range.hi, iC q.most, bC q.back]])]) (by kernel_rfl) ?_
                    rcases Bool.eq_false_or_eq_true ((q.most == 0)) with h13 | h13
                    · rw [h13]
                      have g13 := h13
                      try simp only [beq_iff_eq, beq_eq_false_iff_ne] at g13
                      refine ao_some [30, 31, 32, 33, 34] [] [2] tyOK (st1 := mk 73 [(2, bV (!q.back))] []) (by kernel_rfl) ?_
                      exact ao_nil (by show _ = _; kernel_rfl)
                    · rw [h13]
                      have g13 := h13
                      try simp only [beq_iff_eq, beq_eq_false_iff_ne] at g13
                      refine ao_some [30, 31, 32, 33, 34] [] [2] tyOK (st1 := mk 73 [(2, bV false)] []) (by kernel_rfl) ?_
                      exact ao_nil (by show _ = _; kernel_rfl)
                  · rw [h12]
                    have g12 := h12
                    try simp only [beq_iff_eq, beq_eq_false_iff_ne] at g12
                    refine ao_some [25, 26, 27, 28, 29, 30, 31, 32, 33, 34] [] [2] tyOK (st1 := mk 73 [(2, bV false)] []) (by kernel_rfl) ?_
                    exact ao_nil (by show _ = _; kernel_rfl)
                · rw [h11]
                  have g11 := h11
                  refine ao_some [19, 20, 21, 22, 23, 24, 25, 26, 27, 28, 29, 30, 31, 32, 33, 34] [] [2] tyOK (st1 := mk 73 [(2, bV false)] []) (by kernel_rfl) ?_
                  exact ao_nil (by show _ = _; kernel_rfl)
              · rw [h10]
                have g10 := h10
                refine ao_some [14, 15, 16, 17, 18, 19, 20, 21, 22, 23, 24, 25, 26, 27, 28, 29, 30, 31, 32, 33, 34] [] [2] tyOK (st1 := mk 73 [(2, bV false)] []) (by kernel_rfl) ?_
                exact ao_nil (by show _ = _; kernel_rfl)
            · rw [h9]
              have g9 := h9
              try simp only [decide_eq_true_eq, decide_eq_false_iff_not] at g9
              refine ao_some [9, 10, 11, 12, 13, 14, 15, 16, 17, 18, 19, 20, 21, 22, 23, 24, 25, 26, 27, 28, 29, 30, 31, 32, 33, 34] [] [2] tyOK (st1 := mk 73 [(2, bV false)] []) (by kernel_rfl) ?_
              exact ao_nil (by show _ = _; kernel_rfl)
          · rw [h8]
            have g8 := h8
            try simp only [decide_eq_true_eq, decide_eq_false_iff_not] at g8
            refine ao_some [4, 5, 6, 7, 8, 9, 10, 11, 12, 13, 14, 15, 16, 17, 18, 19, 20, 21, 22, 23, 24, 25, 26, 27, 28, 29, 30, 31, 32, 33, 34] [] [2] tyOK (st1 := mk 73 [(2, bV false)] []) (by kernel_rfl) ?_
            exact ao_nil (by show _ = _; kernel_rfl)
        refine a_ret ?_
        have e : askOkS q = bif (decide (q.kind ≥ 1)) then (bif (decide (q.kind ≤ 3)) then (bif (userOkS q.key) then (bif (uvalOkS q.val) then (bif (((q.range.lo.toList == ((⟨#[]⟩ : ByteArray)).toList) && ((q.range.hi.toList == ((⟨#[]⟩ : ByteArray)).toList) && true))) then (bif ((q.most == 0)) then (!q.back) else false) else false) else false) else false) else false) else false := by rw [askOkS]; rw [h1, cond_false, h7, cond_false]
        exact end_eq (res' := bV (bif (decide (q.kind ≥ 1)) then (bif (decide (q.kind ≤ 3)) then (bif (userOkS q.key) then (bif (uvalOkS q.val) then (bif (((q.range.lo.toList == ((⟨#[]⟩ : ByteArray)).toList) && ((q.range.hi.toList == ((⟨#[]⟩ : ByteArray)).toList) && true))) then (bif ((q.most == 0)) then (!q.back) else false) else false) else false) else false) else false) else false)) (by kernel_rfl) (by rw [e] <;> rfl)



def askOkI (q : Ask) : Bool := bif ((q.kind == 1)) then (bif (userOkI q.key) then (((q.kind == q.kind) && ((q.key.toList == q.key.toList) && ((q.val.toList == ((⟨#[]⟩ : ByteArray)).toList) && ((q.range.lo.toList == ((⟨#[]⟩ : ByteArray)).toList) && ((q.range.hi.toList == ((⟨#[]⟩ : ByteArray)).toList) && ((q.most == 0) && ((q.back == false) && true)))))))) else false) else (bif ((q.kind == 3)) then (bif (userOkI q.key) then (((q.kind == q.kind) && ((q.key.toList == q.key.toList) && ((q.val.toList == ((⟨#[]⟩ : ByteArray)).toList) && ((q.range.lo.toList == ((⟨#[]⟩ : ByteArray)).toList) && ((q.range.hi.toList == ((⟨#[]⟩ : ByteArray)).toList) && ((q.most == 0) && ((q.back == false) && true)))))))) else false) else (bif ((q.kind == 2)) then (bif (userOkI q.key) then (bif (uvalOkI q.val) then (((q.kind == q.kind) && ((q.key.toList == q.key.toList) && ((q.val.toList == q.val.toList) && ((q.range.lo.toList == ((⟨#[]⟩ : ByteArray)).toList) && ((q.range.hi.toList == ((⟨#[]⟩ : ByteArray)).toList) && ((q.most == 0) && ((q.back == false) && true)))))))) else false) else false) else (bif ((q.kind == 4)) then (bif (reachOkI q.range) then (bif (within q.most 1 8) then (bif ((q.key.toList == ((⟨#[]⟩ : ByteArray)).toList)) then ((q.val.toList == ((⟨#[]⟩ : ByteArray)).toList)) else false) else false) else false) else false)))
/-- impl.AskOk -/
theorem ok28 (q : Ask) : CallOK Try.prog 28 [.agg [.c (iC q.kind), .c (sC q.key), .c (sC q.val), .c (sC q.range.lo), .c (sC q.range.hi), .c (iC q.most), .c (bC q.back)]] (bV (askOkI q)) [] :=
  callOK tyOK Try.func28 rfl fun w S hS => by
    refine a_seq ?_
    refine a_run [1] tyOK (st1 := mk 61 [(1, .one (.pl [(1, 0)] 0 0))] [(1, [.bx [iC q.kind, sC q.key, sC q.val, sC q.range.lo, sC q.range.hi, iC q.most, bC q.back]])]) (by kernel_rfl) ?_
    refine a_seq ?_
    refine a_seq ?_
    refine a_run [1, 4] tyOK (st1 := mk 61 [(1, .one (.pl [(1, 0)] 0 0)), (4, iV q.kind)] [(1, [.bx [iC q.kind, sC q.key, sC q.val, sC q.range.lo, sC q.range.hi, iC q.most, bC q.back]])]) (by kernel_rfl) ?_
    refine a_block ?_
    refine a_seq ?_
    refine a_seq ?_
    refine a_run [1, 4, 5] tyOK (st1 := mk 61 [(1, .one (.pl [(1, 0)] 0 0)), (4, iV q.kind), (5, bV ((q.kind == 1)))] [(1, [.bx [iC q.kind, sC q.key, sC q.val, sC q.range.lo, sC q.range.hi, iC q.most, bC q.back]])]) (by kernel_rfl) ?_
    refine a_cond (b := (q.kind == 1)) (by kernel_rfl) (fun h1 => ?_) (fun h1 => ?_)
    · have g1 := h1
      try simp only [beq_iff_eq, beq_eq_false_iff_ne] at g1
      refine a_skip ?_
      refine a_cond (b := (q.kind == 1)) (by kernel_rfl) (fun h2 => ?_) (fun h2 => ?_)
      · refine a_seq ?_
        refine a_mid (mk 61 [(2, bV (bif (userOkI q.key) then (((q.kind == q.kind) && ((q.key.toList == q.key.toList) && ((q.val.toList == ((⟨#[]⟩ : ByteArray)).toList) && ((q.range.lo.toList == ((⟨#[]⟩ : ByteArray)).toList) && ((q.range.hi.toList == ((⟨#[]⟩ : ByteArray)).toList) && ((q.most == 0) && ((q.back == false) && true)))))))) else false))] []) ?_ ?_
        · refine a_ops [0, 1, 2, 3, 4, 5, 6, 7, 8, 9, 10, 11, 12] (by kernel_rfl) ?_
          refine ao_some [0, 1] [2, 3, 4, 5, 6, 7, 8, 9, 10, 11, 12] [1, 9] tyOK (st1 := mk 61 [(1, .one (.pl [(1, 0)] 0 0)), (9, sV q.key)] [(1, [.bx [iC q.kind, sC q.key, sC q.val, sC q.range.lo, sC q.range.hi, iC q.most, bC q.back]])]) (by kernel_rfl) ?_
          refine ao_enter (f := 40) (d := 10) (A := [sV q.key]) (st1 := mk 61 [(1, .one (.pl [(1, 0)] 0 0)), (10, bV (userOkI q.key))] [(1, [.bx [iC q.kind, sC q.key, sC q.val, sC q.range.lo, sC q.range.hi, iC q.most, bC q.back]])]) [1, 10] (ok40 q.key) Try.call40 (by kernel_rfl) (by kernel_rfl) (by kernel_rfl) ?_
          refine ao_some [3] [4, 5, 6, 7, 8, 9, 10, 11, 12] [1, 11] tyOK (st1 := mk 61 [(1, .one (.pl [(1, 0)] 0 0)), (11, bV (userOkI q.key))] [(1, [.bx [iC q.kind, sC q.key, sC q.val, sC q.range.lo, sC q.range.hi, iC q.most, bC q.back]])]) (by kernel_rfl) ?_
          rcases Bool.eq_false_or_eq_true (userOkI q.key) with h3 | h3
          · rw [h3]
            have g3 := h3
            refine ao_some [4, 5, 6, 7, 8, 9, 10, 11, 12] [] [2] tyOK (st1 := mk 61 [(2, bV (((q.kind == q.kind) && ((q.key.toList == q.key.toList) && ((q.val.toList == ((⟨#[]⟩ : ByteArray)).toList) && ((q.range.lo.toList == ((⟨#[]⟩ : ByteArray)).toList) && ((q.range.hi.toList == ((⟨#[]⟩ : ByteArray)).toList) && ((q.most == 0) && ((q.back == false) && true)))))))))] []) (by kernel_rfl) ?_
            exact ao_nil (by show _ = _; kernel_rfl)
          · rw [h3]
            have g3 := h3
            refine ao_some [4, 5, 6, 7, 8, 9, 10, 11, 12] [] [2] tyOK (st1 := mk 61 [(2, bV false)] []) (by kernel_rfl) ?_
            exact ao_nil (by show _ = _; kernel_rfl)
        refine a_ret ?_
        have e : askOkI q = bif (userOkI q.key) then (((q.kind == q.kind) && ((q.key.toList == q.key.toList) && ((q.val.toList == ((⟨#[]⟩ : ByteArray)).toList) && ((q.range.lo.toList == ((⟨#[]⟩ : ByteArray)).toList) && ((q.range.hi.toList == ((⟨#[]⟩ : ByteArray)).toList) && ((q.most == 0) && ((q.back == false) && true)))))))) else false := by rw [askOkI]; rw [h1, cond_true]
        exact end_eq (res' := bV (bif (userOkI q.key) then (((q.kind == q.kind) && ((q.key.toList == q.key.toList) && ((q.val.toList == ((⟨#[]⟩ : ByteArray)).toList) && ((q.range.lo.toList == ((⟨#[]⟩ : ByteArray)).toList) && ((q.range.hi.toList == ((⟨#[]⟩ : ByteArray)).toList) && ((q.most == 0) && ((q.back == false) && true)))))))) else false)) (by kernel_rfl) (by rw [e] <;> rfl)
      · exact absurd (h1.symm.trans h2) (by decide)
    · have g1 := h1
      try simp only [beq_iff_eq, beq_eq_false_iff_ne] at g1
      refine a_run [1, 4, 5] tyOK (st1 := mk 61 [(1, .one (.pl [(1, 0)] 0 0)), (4, iV q.kind), (5, bV ((q.kind == 3)))] [(1, [.bx [iC q.kind, sC q.key, sC q.val, sC q.range.lo, sC q.range.hi, iC q.most, bC q.back]])]) (by kernel_rfl) ?_
      refine a_cond (b := (q.kind == 3)) (by kernel_rfl) (fun h4 => ?_) (fun h4 => ?_)
      · have g4 := h4
        try simp only [beq_iff_eq, beq_eq_false_iff_ne] at g4
        refine a_seq ?_
        refine a_mid (mk 61 [(2, bV (bif (userOkI q.key) then (((q.kind == q.kind) && ((q.key.toList == q.key.toList) && ((q.val.toList == ((⟨#[]⟩ : ByteArray)).toList) && ((q.range.lo.toList == ((⟨#[]⟩ : ByteArray)).toList) && ((q.range.hi.toList == ((⟨#[]⟩ : ByteArray)).toList) && ((q.most == 0) && ((q.back == false) && true)))))))) else false))] []) ?_ ?_
        · refine a_ops [0, 1, 2, 3, 4, 5, 6, 7, 8, 9, 10, 11, 12] (by kernel_rfl) ?_
          refine ao_some [0, 1] [2, 3, 4, 5, 6, 7, 8, 9, 10, 11, 12] [1, 9] tyOK (st1 := mk 61 [(1, .one (.pl [(1, 0)] 0 0)), (9, sV q.key)] [(1, [.bx [iC q.kind, sC q.key, sC q.val, sC q.range.lo, sC q.range.hi, iC q.most, bC q.back]])]) (by kernel_rfl) ?_
          refine ao_enter (f := 40) (d := 10) (A := [sV q.key]) (st1 := mk 61 [(1, .one (.pl [(1, 0)] 0 0)), (10, bV (userOkI q.key))] [(1, [.bx [iC q.kind, sC q.key, sC q.val, sC q.range.lo, sC q.range.hi, iC q.most, bC q.back]])]) [1, 10] (ok40 q.key) Try.call40 (by kernel_rfl) (by kernel_rfl) (by kernel_rfl) ?_
          refine ao_some [3] [4, 5, 6, 7, 8, 9, 10, 11, 12] [1, 11] tyOK (st1 := mk 61 [(1, .one (.pl [(1, 0)] 0 0)), (11, bV (userOkI q.key))] [(1, [.bx [iC q.kind, sC q.key, sC q.val, sC q.range.lo, sC q.range.hi, iC q.most, bC q.back]])]) (by kernel_rfl) ?_
          rcases Bool.eq_false_or_eq_true (userOkI q.key) with h5 | h5
          · rw [h5]
            have g5 := h5
            refine ao_some [4, 5, 6, 7, 8, 9, 10, 11, 12] [] [2] tyOK (st1 := mk 61 [(2, bV (((q.kind == q.kind) && ((q.key.toList == q.key.toList) && ((q.val.toList == ((⟨#[]⟩ : ByteArray)).toList) && ((q.range.lo.toList == ((⟨#[]⟩ : ByteArray)).toList) && ((q.range.hi.toList == ((⟨#[]⟩ : ByteArray)).toList) && ((q.most == 0) && ((q.back == false) && true)))))))))] []) (by kernel_rfl) ?_
            exact ao_nil (by show _ = _; kernel_rfl)
          · rw [h5]
            have g5 := h5
            refine ao_some [4, 5, 6, 7, 8, 9, 10, 11, 12] [] [2] tyOK (st1 := mk 61 [(2, bV false)] []) (by kernel_rfl) ?_
            exact ao_nil (by show _ = _; kernel_rfl)
        refine a_ret ?_
        have e : askOkI q = bif (userOkI q.key) then (((q.kind == q.kind) && ((q.key.toList == q.key.toList) && ((q.val.toList == ((⟨#[]⟩ : ByteArray)).toList) && ((q.range.lo.toList == ((⟨#[]⟩ : ByteArray)).toList) && ((q.range.hi.toList == ((⟨#[]⟩ : ByteArray)).toList) && ((q.most == 0) && ((q.back == false) && true)))))))) else false := by rw [askOkI]; rw [h1, cond_false, h4, cond_true]
        exact end_eq (res' := bV (bif (userOkI q.key) then (((q.kind == q.kind) && ((q.key.toList == q.key.toList) && ((q.val.toList == ((⟨#[]⟩ : ByteArray)).toList) && ((q.range.lo.toList == ((⟨#[]⟩ : ByteArray)).toList) && ((q.range.hi.toList == ((⟨#[]⟩ : ByteArray)).toList) && ((q.most == 0) && ((q.back == false) && true)))))))) else false)) (by kernel_rfl) (by rw [e] <;> rfl)
      · have g4 := h4
        try simp only [beq_iff_eq, beq_eq_false_iff_ne] at g4
        refine a_seq ?_
        refine a_run [1, 4, 20] tyOK (st1 := mk 61 [(1, .one (.pl [(1, 0)] 0 0)), (4, iV q.kind), (20, bV ((q.kind == 2)))] [(1, [.bx [iC q.kind, sC q.key, sC q.val, sC q.range.lo, sC q.range.hi, iC q.most, bC q.back]])]) (by kernel_rfl) ?_
        refine a_cond (b := (q.kind == 2)) (by kernel_rfl) (fun h6 => ?_) (fun h6 => ?_)
        · have g6 := h6
          try simp only [beq_iff_eq, beq_eq_false_iff_ne] at g6
          refine a_seq ?_
          refine a_mid (mk 61 [(2, bV (bif (userOkI q.key) then (bif (uvalOkI q.val) then (((q.kind == q.kind) && ((q.key.toList == q.key.toList) && ((q.val.toList == q.val.toList) && ((q.range.lo.toList == ((⟨#[]⟩ : ByteArray)).toList) && ((q.range.hi.toList == ((⟨#[]⟩ : ByteArray)).toList) && ((q.most == 0) && ((q.back == false) && true)))))))) else false) else false))] []) ?_ ?_
          · refine a_ops [0, 1, 2, 3, 4, 5, 6, 7, 8, 9, 10, 11, 12, 13, 14, 15, 16, 17, 18, 19] (by kernel_rfl) ?_
            refine ao_some [0, 1] [2, 3, 4, 5, 6, 7, 8, 9, 10, 11, 12, 13, 14, 15, 16, 17, 18, 19] [1, 23] tyOK (st1 := mk 61 [(1, .one (.pl [(1, 0)] 0 0)), (23, sV q.key)] [(1, [.bx [iC q.kind, sC q.key, sC q.val, sC q.range.lo, sC q.range.hi, iC q.most, bC q.back]])]) (by kernel_rfl) ?_
            refine ao_enter (f := 40) (d := 24) (A := [sV q.key]) (st1 := mk 61 [(1, .one (.pl [(1, 0)] 0 0)), (24, bV (userOkI q.key))] [(1, [.bx [iC q.kind, sC q.key, sC q.val, sC q.range.lo, sC q.range.hi, iC q.most, bC q.back]])]) [1, 24] (ok40 q.key) Try.call40 (by kernel_rfl) (by kernel_rfl) (by kernel_rfl) ?_
            refine ao_some [3] [4, 5, 6, 7, 8, 9, 10, 11, 12, 13, 14, 15, 16, 17, 18, 19] [1, 25] tyOK (st1 := mk 61 [(1, .one (.pl [(1, 0)] 0 0)), (25, bV (userOkI q.key))] [(1, [.bx [iC q.kind, sC q.key, sC q.val, sC q.range.lo, sC q.range.hi, iC q.most, bC q.back]])]) (by kernel_rfl) ?_
            rcases Bool.eq_false_or_eq_true (userOkI q.key) with h7 | h7
            · rw [h7]
              have g7 := h7
              refine ao_some [4, 5] [6, 7, 8, 9, 10, 11, 12, 13, 14, 15, 16, 17, 18, 19] [1, 25, 27] tyOK (st1 := mk 61 [(1, .one (.pl [(1, 0)] 0 0)), (25, bV true), (27, sV q.val)] [(1, [.bx [iC q.kind, sC q.key, sC q.val, sC q.range.lo, sC q.range.hi, iC q.most, bC q.back]])]) (by kernel_rfl) ?_
              refine ao_enter (f := 41) (d := 28) (A := [sV q.val]) (st1 := mk 61 [(1, .one (.pl [(1, 0)] 0 0)), (25, bV true), (28, bV (uvalOkI q.val))] [(1, [.bx [iC q.kind, sC q.key, sC q.val, sC q.range.lo, sC q.range.hi, iC q.most, bC q.back]])]) [1, 25, 28] (ok41 q.val) Try.call41 (by kernel_rfl) (by kernel_rfl) (by kernel_rfl) ?_
              refine ao_some [7, 8] [9, 10, 11, 12, 13, 14, 15, 16, 17, 18, 19] [1, 30] tyOK (st1 := mk 61 [(1, .one (.pl [(1, 0)] 0 0)), (30, bV (uvalOkI q.val))] [(1, [.bx [iC q.kind, sC q.key, sC q.val, sC q.range.lo, sC q.range.hi, iC q.most, bC q.back]])]) (by kernel_rfl) ?_
              rcases Bool.eq_false_or_eq_true (uvalOkI q.val) with h8 | h8
              · rw [h8]
                have g8 := h8
                refine ao_some [9, 10, 11, 12, 13, 14, 15, 16, 17, 18, 19] [] [2] tyOK (st1 := mk 61 [(2, bV (((q.kind == q.kind) && ((q.key.toList == q.key.toList) && ((q.val.toList == q.val.toList) && ((q.range.lo.toList == ((⟨#[]⟩ : ByteArray)).toList) && ((q.range.hi.toList == ((⟨#[]⟩ : ByteArray)).toList) && ((q.most == 0) && ((q.back == false) && true)))))))))] []) (by kernel_rfl) ?_
                exact ao_nil (by show _ = _; kernel_rfl)
              · rw [h8]
                have g8 := h8
                refine ao_some [9, 10, 11, 12, 13, 14, 15, 16, 17, 18, 19] [] [2] tyOK (st1 := mk 61 [(2, bV false)] []) (by kernel_rfl) ?_
                exact ao_nil (by show _ = _; kernel_rfl)
            · rw [h7]
              have g7 := h7
              refine ao_some [4, 5, 6, 7, 8, 9, 10, 11, 12, 13, 14, 15, 16, 17, 18, 19] [] [2] tyOK (st1 := mk 61 [(2, bV false)] []) (by kernel_rfl) ?_
              exact ao_nil (by show _ = _; kernel_rfl)
          refine a_ret ?_
          have e : askOkI q = bif (userOkI q.key) then (bif (uvalOkI q.val) then (((q.kind == q.kind) && ((q.key.toList == q.key.toList) && ((q.val.toList == q.val.toList) && ((q.range.lo.toList == ((⟨#[]⟩ : ByteArray)).toList) && ((q.range.hi.toList == ((⟨#[]⟩ : ByteArray)).toList) && ((q.most == 0) && ((q.back == false) && true)))))))) else false) else false := by rw [askOkI]; rw [h1, cond_false, h4, cond_false, h6, cond_true]
          exact end_eq (res' := bV (bif (userOkI q.key) then (bif (uvalOkI q.val) then (((q.kind == q.kind) && ((q.key.toList == q.key.toList) && ((q.val.toList == q.val.toList) && ((q.range.lo.toList == ((⟨#[]⟩ : ByteArray)).toList) && ((q.range.hi.toList == ((⟨#[]⟩ : ByteArray)).toList) && ((q.most == 0) && ((q.back == false) && true)))))))) else false) else false)) (by kernel_rfl) (by rw [e] <;> rfl)
        · have g6 := h6
          try simp only [beq_iff_eq, beq_eq_false_iff_ne] at g6
          refine a_seq ?_
          refine a_run [1, 41] tyOK (st1 := mk 61 [(1, .one (.pl [(1, 0)] 0 0)), (41, bV ((q.kind == 4)))] [(1, [.bx [iC q.kind, sC q.key, sC q.val, sC q.range.lo, sC q.range.hi, iC q.most, bC q.back]])]) (by kernel_rfl) ?_
          refine a_cond (b := (q.kind == 4)) (by kernel_rfl) (fun h9 => ?_) (fun h9 => ?_)
          · have g9 := h9
            try simp only [beq_iff_eq, beq_eq_false_iff_ne] at g9
            refine a_seq ?_
            refine a_mid (mk 61 [(2, bV (bif (reachOkI q.range) then (bif (within q.most 1 8) then (bif ((q.key.toList == ((⟨#[]⟩ : ByteArray)).toList)) then ((q.val.toList == ((⟨#[]⟩ : ByteArray)).toList)) else false) else false) else false))] []) ?_ ?_
            · refine a_ops [0, 1, 2, 3, 4, 5, 6, 7, 8, 9, 10, 11, 12, 13, 14, 15, 16, 17, 18] (by kernel_rfl) ?_
              refine ao_some [0, 1] [2, 3, 4, 5, 6, 7, 8, 9, 10, 11, 12, 13, 14, 15, 16, 17, 18] [1, 44] tyOK (st1 := mk 61 [(1, .one (.pl [(1, 0)] 0 0)), (44, .agg [.c (sC q.range.lo), .c (sC q.range.hi)])] [(1, [.bx [iC q.kind, sC q.key, sC q.val, sC q.range.lo, sC q.range.hi, iC q.most, bC q.back]])]) (by kernel_rfl) ?_
              refine ao_enter (f := 42) (d := 45) (A := [.agg [.c (sC q.range.lo), .c (sC q.range.hi)]]) (st1 := mk 61 [(1, .one (.pl [(1, 0)] 0 0)), (45, bV (reachOkI q.range))] [(1, [.bx [iC q.kind, sC q.key, sC q.val, sC q.range.lo, sC q.range.hi, iC q.most, bC q.back]])]) [1, 45] (ok42 q.range) Try.call42 (by kernel_rfl) (by kernel_rfl) (by kernel_rfl) ?_
              refine ao_some [3] [4, 5, 6, 7, 8, 9, 10, 11, 12, 13, 14, 15, 16, 17, 18] [1, 46] tyOK (st1 := mk 61 [(1, .one (.pl [(1, 0)] 0 0)), (46, bV (reachOkI q.range))] [(1, [.bx [iC q.kind, sC q.key, sC q.val, sC q.range.lo, sC q.range.hi, iC q.most, bC q.back]])]) (by kernel_rfl) ?_
              rcases Bool.eq_false_or_eq_true (reachOkI q.range) with h10 | h10
              · rw [h10]
                have g10 := h10
                refine ao_some [4, 5] [6, 7, 8, 9, 10, 11, 12, 13, 14, 15, 16, 17, 18] [1, 46, 48] tyOK (st1 := mk 61 [(1, .one (.pl [(1, 0)] 0 0)), (46, bV true), (48, iV q.most)] [(1, [.bx [iC q.kind, sC q.key, sC q.val, sC q.range.lo, sC q.range.hi, iC q.most, bC q.back]])]) (by kernel_rfl) ?_
                refine ao_enter (f := 29) (d := 49) (A := [iV q.most, iV 1, iV 8]) (st1 := mk 61 [(1, .one (.pl [(1, 0)] 0 0)), (46, bV true), (49, bV (within q.most 1 8))] [(1, [.bx [iC q.kind, sC q.key, sC q.val, sC q.range.lo, sC q.range.hi, iC q.most, bC q.back]])]) [1, 46, 49] (okwithin q.most 1 8) Try.call29 (by kernel_rfl) (by kernel_rfl) (by kernel_rfl) ?_
                refine ao_some [7, 8] [9, 10, 11, 12, 13, 14, 15, 16, 17, 18] [1, 51] tyOK (st1 := mk 61 [(1, .one (.pl [(1, 0)] 0 0)), (51, bV (within q.most 1 8))] [(1, [.bx [iC q.kind, sC q.key, sC q.val, sC q.range.lo, sC q.range.hi, iC q.most, bC q.back]])]) (by kernel_rfl) ?_
                rcases Bool.eq_false_or_eq_true (within q.most 1 8) with h11 | h11
                · rw [h11]
                  have g11 := h11
                  refine ao_some [9, 10, 11, 12, 13] [14, 15, 16, 17, 18] [1, 56] tyOK (st1 := mk 61 [(1, .one (.pl [(1, 0)] 0 0)), (56, bV ((q.key.toList == ((⟨#[]⟩ : ByteArray)).toList)))] [(1, [.bx [iC q.kind, sC q.key, sC q.val, sC q.range.lo, sC q.range.hi, iC q.most, bC q.back]])]) (by kernel_rfl) ?_
                  rcases Bool.eq_false_or_eq_true ((q.key.toList == ((⟨#[]⟩ : ByteArray)).toList)) with h12 | h12
                  · rw [h12]
                    have g12 := h12
                    try simp only [beq_iff_eq, beq_eq_false_iff_ne] at g12
                    refine ao_some [14, 15, 16, 17, 18] [] [2] tyOK (st1 := mk 61 [(2, bV ((q.val.toList == ((⟨#[]⟩ : ByteArray)).toList)))] []) (by kernel_rfl) ?_
                    exact ao_nil (by show _ = _; kernel_rfl)
                  · rw [h12]
                    have g12 := h12
                    try simp only [beq_iff_eq, beq_eq_false_iff_ne] at g12
                    refine ao_some [14, 15, 16, 17, 18] [] [2] tyOK (st1 := mk 61 [(2, bV false)] []) (by kernel_rfl) ?_
                    exact ao_nil (by show _ = _; kernel_rfl)
                · rw [h11]
                  have g11 := h11
                  refine ao_some [9, 10, 11, 12, 13, 14, 15, 16, 17, 18] [] [2] tyOK (st1 := mk 61 [(2, bV false)] []) (by kernel_rfl) ?_
                  exact ao_nil (by show _ = _; kernel_rfl)
              · rw [h10]
                have g10 := h10
                refine ao_some [4, 5, 6, 7, 8, 9, 10, 11, 12, 13, 14, 15, 16, 17, 18] [] [2] tyOK (st1 := mk 61 [(2, bV false)] []) (by kernel_rfl) ?_
                exact ao_nil (by show _ = _; kernel_rfl)
            refine a_ret ?_
            have e : askOkI q = bif (reachOkI q.range) then (bif (within q.most 1 8) then (bif ((q.key.toList == ((⟨#[]⟩ : ByteArray)).toList)) then ((q.val.toList == ((⟨#[]⟩ : ByteArray)).toList)) else false) else false) else false := by rw [askOkI]; rw [h1, cond_false, h4, cond_false, h6, cond_false, h9, cond_true]
            exact end_eq (res' := bV (bif (reachOkI q.range) then (bif (within q.most 1 8) then (bif ((q.key.toList == ((⟨#[]⟩ : ByteArray)).toList)) then ((q.val.toList == ((⟨#[]⟩ : ByteArray)).toList)) else false) else false) else false)) (by kernel_rfl) (by rw [e] <;> rfl)
          · have g9 := h9
            try simp only [beq_iff_eq, beq_eq_false_iff_ne] at g9
            refine a_skip ?_
            refine a_seq ?_
            refine a_run [2] tyOK (st1 := mk 61 [(2, bV false)] []) (by kernel_rfl) ?_
            refine a_ret ?_
            have e : askOkI q = false := by rw [askOkI]; rw [h1, cond_false, h4, cond_false, h6, cond_false, h9, cond_false]
            exact end_eq (res' := bV false) (by kernel_rfl) (by rw [e] <;> rfl)



def callOkS (c : CallR) : Bool := bif ((c.kind == 2)) then (askOkS c.ask) else (bif (decide (c.kind ≥ 1)) then (bif (decide (c.kind ≤ 4)) then (((c.ask.kind == 0) && ((c.ask.key.toList == ((⟨#[]⟩ : ByteArray)).toList) && ((c.ask.val.toList == ((⟨#[]⟩ : ByteArray)).toList) && ((c.ask.range.lo.toList == ((⟨#[]⟩ : ByteArray)).toList) && ((c.ask.range.hi.toList == ((⟨#[]⟩ : ByteArray)).toList) && ((c.ask.most == 0) && ((c.ask.back == false) && true)))))))) else false) else false)
/-- spec.CallOk -/
theorem ok25 (c : CallR) : CallOK Try.prog 25 [.agg [.c (iC c.kind), .c (iC c.ask.kind), .c (sC c.ask.key), .c (sC c.ask.val), .c (sC c.ask.range.lo), .c (sC c.ask.range.hi), .c (iC c.ask.most), .c (bC c.ask.back)]] (bV (callOkS c)) [] :=
  callOK tyOK Try.func25 rfl fun w S hS => by
    refine a_seq ?_
    refine a_run [1] tyOK (st1 := mk 25 [(1, .one (.pl [(1, 0)] 0 0))] [(1, [.bx [iC c.kind, iC c.ask.kind, sC c.ask.key, sC c.ask.val, sC c.ask.range.lo, sC c.ask.range.hi, iC c.ask.most, bC c.ask.back]])]) (by kernel_rfl) ?_
    refine a_seq ?_
    refine a_run [1, 3] tyOK (st1 := mk 25 [(1, .one (.pl [(1, 0)] 0 0)), (3, .one (.pl [(3, 0)] 0 0))] [(1, [.bx [iC c.kind, iC c.ask.kind, sC c.ask.key, sC c.ask.val, sC c.ask.range.lo, sC c.ask.range.hi, iC c.ask.most, bC c.ask.back]]), (3, [.bx [iC 0, sC ((⟨#[]⟩ : ByteArray)), sC ((⟨#[]⟩ : ByteArray)), sC ((⟨#[]⟩ : ByteArray)), sC ((⟨#[]⟩ : ByteArray)), iC 0, bC false]])]) (by kernel_rfl) ?_
    refine a_seq ?_
    refine a_seq ?_
    refine a_run [1, 3, 7] tyOK (st1 := mk 25 [(1, .one (.pl [(1, 0)] 0 0)), (3, .one (.pl [(3, 0)] 0 0)), (7, bV ((c.kind == 2)))] [(1, [.bx [iC c.kind, iC c.ask.kind, sC c.ask.key, sC c.ask.val, sC c.ask.range.lo, sC c.ask.range.hi, iC c.ask.most, bC c.ask.back]]), (3, [.bx [iC 0, sC ((⟨#[]⟩ : ByteArray)), sC ((⟨#[]⟩ : ByteArray)), sC ((⟨#[]⟩ : ByteArray)), sC ((⟨#[]⟩ : ByteArray)), iC 0, bC false]])]) (by kernel_rfl) ?_
    refine a_cond (b := (c.kind == 2)) (by kernel_rfl) (fun h1 => ?_) (fun h1 => ?_)
    · have g1 := h1
      try simp only [beq_iff_eq, beq_eq_false_iff_ne] at g1
      refine a_seq ?_
      refine a_ops [0, 1, 2, 3] (by kernel_rfl) ?_
      refine ao_some [0, 1] [2, 3] [9] tyOK (st1 := mk 25 [(9, .agg [.c (iC c.ask.kind), .c (sC c.ask.key), .c (sC c.ask.val), .c (sC c.ask.range.lo), .c (sC c.ask.range.hi), .c (iC c.ask.most), .c (bC c.ask.back)])] []) (by kernel_rfl) ?_
      refine ao_enter (f := 37) (d := 10) (A := [.agg [.c (iC c.ask.kind), .c (sC c.ask.key), .c (sC c.ask.val), .c (sC c.ask.range.lo), .c (sC c.ask.range.hi), .c (iC c.ask.most), .c (bC c.ask.back)]]) (st1 := mk 25 [(10, bV (askOkS c.ask))] []) [10] (ok37 c.ask) Try.call37 (by kernel_rfl) (by kernel_rfl) (by kernel_rfl) ?_
      refine ao_some [3] [] [2] tyOK (st1 := mk 25 [(2, bV (askOkS c.ask))] []) (by kernel_rfl) ?_
      refine ao_nil ?_
      refine a_ret ?_
      have e : callOkS c = askOkS c.ask := by rw [callOkS]; rw [h1, cond_true]
      exact end_eq (res' := bV (askOkS c.ask)) (by kernel_rfl) (by rw [e] <;> rfl)
    · have g1 := h1
      try simp only [beq_iff_eq, beq_eq_false_iff_ne] at g1
      refine a_skip ?_
      refine a_seq ?_
      refine a_mid (mk 25 [(2, bV (bif (decide (c.kind ≥ 1)) then (bif (decide (c.kind ≤ 4)) then (((c.ask.kind == 0) && ((c.ask.key.toList == ((⟨#[]⟩ : ByteArray)).toList) && ((c.ask.val.toList == ((⟨#[]⟩ : ByteArray)).toList) && ((c.ask.range.lo.toList == ((⟨#[]⟩ : ByteArray)).toList) && ((c.ask.range.hi.toList == ((⟨#[]⟩ : ByteArray)).toList) && ((c.ask.most == 0) && ((c.ask.back == false) && true)))))))) else false) else false))] []) ?_ ?_
      · refine a_ops [0, 1, 2, 3, 4, 5, 6, 7, 8, 9, 10, 11, 12, 13, 14] (by kernel_rfl) ?_
        refine ao_some [0, 1, 2, 3] [4, 5, 6, 7, 8, 9, 10, 11, 12, 13, 14] [1, 3, 14] tyOK (st1 := mk 25 [(1, .one (.pl [(1, 0)] 0 0)), (3, .one (.pl [(3, 0)] 0 0)), (14, bV (decide (c.kind ≥ 1)))] [(1, [.bx [iC c.kind, iC c.ask.kind, sC c.ask.key, sC c.ask.val, sC c.ask.range.lo, sC c.ask.range.hi, iC c.ask.most, bC c.ask.back]]), (3, [.bx [iC 0, sC ((⟨#[]⟩ : ByteArray)), sC ((⟨#[]⟩ : ByteArray)), sC ((⟨#[]⟩ : ByteArray)), sC ((⟨#[]⟩ : ByteArray)), iC 0, bC false]])]) (by kernel_rfl) ?_
        rcases Bool.eq_false_or_eq_true (decide (c.kind ≥ 1)) with h2 | h2
        · rw [h2]
          have g2 := h2
          try simp only [decide_eq_true_eq, decide_eq_false_iff_not] at g2
          refine ao_some [4, 5, 6, 7, 8] [9, 10, 11, 12, 13, 14] [1, 3, 19] tyOK (st1 := mk 25 [(1, .one (.pl [(1, 0)] 0 0)), (3, .one (.pl [(3, 0)] 0 0)), (19, bV (decide (c.kind ≤ 4)))] [(1, [.bx [iC c.kind, iC c.ask.kind, sC c.ask.key, sC c.ask.val, sC c.ask.range.lo, sC c.ask.range.hi, iC c.ask.most, bC c.ask.back]]), (3, [.bx [iC 0, sC ((⟨#[]⟩ : ByteArray)), sC ((⟨#[]⟩ : ByteArray)), sC ((⟨#[]⟩ : ByteArray)), sC ((⟨#[]⟩ : ByteArray)), iC 0, bC false]])]) (by kernel_rfl) ?_
          rcases Bool.eq_false_or_eq_true (decide (c.kind ≤ 4)) with h3 | h3
          · rw [h3]
            have g3 := h3
            try simp only [decide_eq_true_eq, decide_eq_false_iff_not] at g3
            refine ao_some [9, 10, 11, 12, 13, 14] [] [2] tyOK (st1 := mk 25 [(2, bV (((c.ask.kind == 0) && ((c.ask.key.toList == ((⟨#[]⟩ : ByteArray)).toList) && ((c.ask.val.toList == ((⟨#[]⟩ : ByteArray)).toList) && ((c.ask.range.lo.toList == ((⟨#[]⟩ : ByteArray)).toList) && ((c.ask.range.hi.toList == ((⟨#[]⟩ : ByteArray)).toList) && ((c.ask.most == 0) && ((c.ask.back == false) && true)))))))))] []) (by kernel_rfl) ?_
            exact ao_nil (by show _ = _; kernel_rfl)
          · rw [h3]
            have g3 := h3
            try simp only [decide_eq_true_eq, decide_eq_false_iff_not] at g3
            refine ao_some [9, 10, 11, 12, 13, 14] [] [2] tyOK (st1 := mk 25 [(2, bV false)] []) (by kernel_rfl) ?_
            exact ao_nil (by show _ = _; kernel_rfl)
        · rw [h2]
          have g2 := h2
          try simp only [decide_eq_true_eq, decide_eq_false_iff_not] at g2
          refine ao_some [4, 5, 6, 7, 8, 9, 10, 11, 12, 13, 14] [] [2] tyOK (st1 := mk 25 [(2, bV false)] []) (by kernel_rfl) ?_
          exact ao_nil (by show _ = _; kernel_rfl)
      refine a_ret ?_
      have e : callOkS c = bif (decide (c.kind ≥ 1)) then (bif (decide (c.kind ≤ 4)) then (((c.ask.kind == 0) && ((c.ask.key.toList == ((⟨#[]⟩ : ByteArray)).toList) && ((c.ask.val.toList == ((⟨#[]⟩ : ByteArray)).toList) && ((c.ask.range.lo.toList == ((⟨#[]⟩ : ByteArray)).toList) && ((c.ask.range.hi.toList == ((⟨#[]⟩ : ByteArray)).toList) && ((c.ask.most == 0) && ((c.ask.back == false) && true)))))))) else false) else false := by rw [callOkS]; rw [h1, cond_false]
      exact end_eq (res' := bV (bif (decide (c.kind ≥ 1)) then (bif (decide (c.kind ≤ 4)) then (((c.ask.kind == 0) && ((c.ask.key.toList == ((⟨#[]⟩ : ByteArray)).toList) && ((c.ask.val.toList == ((⟨#[]⟩ : ByteArray)).toList) && ((c.ask.range.lo.toList == ((⟨#[]⟩ : ByteArray)).toList) && ((c.ask.range.hi.toList == ((⟨#[]⟩ : ByteArray)).toList) && ((c.ask.most == 0) && ((c.ask.back == false) && true)))))))) else false) else false)) (by kernel_rfl) (by rw [e] <;> rfl)



def callOkI (c : CallR) : Bool := bif ((c.kind == 2)) then (askOkI c.ask) else (bif (within c.kind 1 4) then (((c.ask.kind == 0) && ((c.ask.key.toList == ((⟨#[]⟩ : ByteArray)).toList) && ((c.ask.val.toList == ((⟨#[]⟩ : ByteArray)).toList) && ((c.ask.range.lo.toList == ((⟨#[]⟩ : ByteArray)).toList) && ((c.ask.range.hi.toList == ((⟨#[]⟩ : ByteArray)).toList) && ((c.ask.most == 0) && ((c.ask.back == false) && true)))))))) else false)
/-- impl.CallOk -/
theorem ok18 (c : CallR) : CallOK Try.prog 18 [.agg [.c (iC c.kind), .c (iC c.ask.kind), .c (sC c.ask.key), .c (sC c.ask.val), .c (sC c.ask.range.lo), .c (sC c.ask.range.hi), .c (iC c.ask.most), .c (bC c.ask.back)]] (bV (callOkI c)) [] :=
  callOK tyOK Try.func18 rfl fun w S hS => by
    refine a_seq ?_
    refine a_run [1] tyOK (st1 := mk 18 [(1, .one (.pl [(1, 0)] 0 0))] [(1, [.bx [iC c.kind, iC c.ask.kind, sC c.ask.key, sC c.ask.val, sC c.ask.range.lo, sC c.ask.range.hi, iC c.ask.most, bC c.ask.back]])]) (by kernel_rfl) ?_
    refine a_seq ?_
    refine a_seq ?_
    refine a_run [1, 5] tyOK (st1 := mk 18 [(1, .one (.pl [(1, 0)] 0 0)), (5, bV ((c.kind == 2)))] [(1, [.bx [iC c.kind, iC c.ask.kind, sC c.ask.key, sC c.ask.val, sC c.ask.range.lo, sC c.ask.range.hi, iC c.ask.most, bC c.ask.back]])]) (by kernel_rfl) ?_
    refine a_cond (b := (c.kind == 2)) (by kernel_rfl) (fun h1 => ?_) (fun h1 => ?_)
    · have g1 := h1
      try simp only [beq_iff_eq, beq_eq_false_iff_ne] at g1
      refine a_seq ?_
      refine a_ops [0, 1, 2, 3] (by kernel_rfl) ?_
      refine ao_some [0, 1] [2, 3] [7] tyOK (st1 := mk 18 [(7, .agg [.c (iC c.ask.kind), .c (sC c.ask.key), .c (sC c.ask.val), .c (sC c.ask.range.lo), .c (sC c.ask.range.hi), .c (iC c.ask.most), .c (bC c.ask.back)])] []) (by kernel_rfl) ?_
      refine ao_enter (f := 28) (d := 8) (A := [.agg [.c (iC c.ask.kind), .c (sC c.ask.key), .c (sC c.ask.val), .c (sC c.ask.range.lo), .c (sC c.ask.range.hi), .c (iC c.ask.most), .c (bC c.ask.back)]]) (st1 := mk 18 [(8, bV (askOkI c.ask))] []) [8] (ok28 c.ask) Try.call28 (by kernel_rfl) (by kernel_rfl) (by kernel_rfl) ?_
      refine ao_some [3] [] [2] tyOK (st1 := mk 18 [(2, bV (askOkI c.ask))] []) (by kernel_rfl) ?_
      refine ao_nil ?_
      refine a_ret ?_
      have e : callOkI c = askOkI c.ask := by rw [callOkI]; rw [h1, cond_true]
      exact end_eq (res' := bV (askOkI c.ask)) (by kernel_rfl) (by rw [e] <;> rfl)
    · have g1 := h1
      try simp only [beq_iff_eq, beq_eq_false_iff_ne] at g1
      refine a_skip ?_
      refine a_seq ?_
      refine a_mid (mk 18 [(2, bV (bif (within c.kind 1 4) then (((c.ask.kind == 0) && ((c.ask.key.toList == ((⟨#[]⟩ : ByteArray)).toList) && ((c.ask.val.toList == ((⟨#[]⟩ : ByteArray)).toList) && ((c.ask.range.lo.toList == ((⟨#[]⟩ : ByteArray)).toList) && ((c.ask.range.hi.toList == ((⟨#[]⟩ : ByteArray)).toList) && ((c.ask.most == 0) && ((c.ask.back == false) && true)))))))) else false))] []) ?_ ?_
      · refine a_ops [0, 1, 2, 3, 4, 5, 6, 7, 8, 9] (by kernel_rfl) ?_
        refine ao_some [0, 1] [2, 3, 4, 5, 6, 7, 8, 9] [1, 10] tyOK (st1 := mk 18 [(1, .one (.pl [(1, 0)] 0 0)), (10, iV c.kind)] [(1, [.bx [iC c.kind, iC c.ask.kind, sC c.ask.key, sC c.ask.val, sC c.ask.range.lo, sC c.ask.range.hi, iC c.ask.most, bC c.ask.back]])]) (by kernel_rfl) ?_
        refine ao_enter (f := 29) (d := 11) (A := [iV c.kind, iV 1, iV 4]) (st1 := mk 18 [(1, .one (.pl [(1, 0)] 0 0)), (11, bV (within c.kind 1 4))] [(1, [.bx [iC c.kind, iC c.ask.kind, sC c.ask.key, sC c.ask.val, sC c.ask.range.lo, sC c.ask.range.hi, iC c.ask.most, bC c.ask.back]])]) [1, 11] (okwithin c.kind 1 4) Try.call29 (by kernel_rfl) (by kernel_rfl) (by kernel_rfl) ?_
        refine ao_some [3] [4, 5, 6, 7, 8, 9] [1, 12] tyOK (st1 := mk 18 [(1, .one (.pl [(1, 0)] 0 0)), (12, bV (within c.kind 1 4))] [(1, [.bx [iC c.kind, iC c.ask.kind, sC c.ask.key, sC c.ask.val, sC c.ask.range.lo, sC c.ask.range.hi, iC c.ask.most, bC c.ask.back]])]) (by kernel_rfl) ?_
        rcases Bool.eq_false_or_eq_true (within c.kind 1 4) with h2 | h2
        · rw [h2]
          have g2 := h2
          refine ao_some [4, 5, 6, 7, 8, 9] [] [2] tyOK (st1 := mk 18 [(2, bV (((c.ask.kind == 0) && ((c.ask.key.toList == ((⟨#[]⟩ : ByteArray)).toList) && ((c.ask.val.toList == ((⟨#[]⟩ : ByteArray)).toList) && ((c.ask.range.lo.toList == ((⟨#[]⟩ : ByteArray)).toList) && ((c.ask.range.hi.toList == ((⟨#[]⟩ : ByteArray)).toList) && ((c.ask.most == 0) && ((c.ask.back == false) && true)))))))))] []) (by kernel_rfl) ?_
          exact ao_nil (by show _ = _; kernel_rfl)
        · rw [h2]
          have g2 := h2
          refine ao_some [4, 5, 6, 7, 8, 9] [] [2] tyOK (st1 := mk 18 [(2, bV false)] []) (by kernel_rfl) ?_
          exact ao_nil (by show _ = _; kernel_rfl)
      refine a_ret ?_
      have e : callOkI c = bif (within c.kind 1 4) then (((c.ask.kind == 0) && ((c.ask.key.toList == ((⟨#[]⟩ : ByteArray)).toList) && ((c.ask.val.toList == ((⟨#[]⟩ : ByteArray)).toList) && ((c.ask.range.lo.toList == ((⟨#[]⟩ : ByteArray)).toList) && ((c.ask.range.hi.toList == ((⟨#[]⟩ : ByteArray)).toList) && ((c.ask.most == 0) && ((c.ask.back == false) && true)))))))) else false := by rw [callOkI]; rw [h1, cond_false]
      exact end_eq (res' := bV (bif (within c.kind 1 4) then (((c.ask.kind == 0) && ((c.ask.key.toList == ((⟨#[]⟩ : ByteArray)).toList) && ((c.ask.val.toList == ((⟨#[]⟩ : ByteArray)).toList) && ((c.ask.range.lo.toList == ((⟨#[]⟩ : ByteArray)).toList) && ((c.ask.range.hi.toList == ((⟨#[]⟩ : ByteArray)).toList) && ((c.ask.most == 0) && ((c.ask.back == false) && true)))))))) else false)) (by kernel_rfl) (by rw [e] <;> rfl)



def wordOf (k : Int) : ByteArray := bif ((k == 2)) then ((⟨#[100, 101, 108, 105, 118, 101, 114]⟩ : ByteArray)) else (bif ((k == 3)) then ((⟨#[108, 111, 115, 101]⟩ : ByteArray)) else (bif ((k == 4)) then ((⟨#[100, 111, 117, 98, 108, 101]⟩ : ByteArray)) else (bif ((k == 5)) then ((⟨#[116, 105, 99, 107]⟩ : ByteArray)) else (bif ((k == 6)) then ((⟨#[100, 111, 119, 110]⟩ : ByteArray)) else (bif ((k == 7)) then ((⟨#[116, 111, 114, 110]⟩ : ByteArray)) else (bif ((k == 8)) then ((⟨#[117, 112]⟩ : ByteArray)) else (bif ((k == 9)) then ((⟨#[99, 97, 108, 109]⟩ : ByteArray)) else ((⟨#[]⟩ : ByteArray)))))))))
/-- impl.wordOf -/
theorem ok17 (k : Int) : CallOK Try.prog 17 [iV k] (sV (wordOf k)) [] :=
  callOK tyOK Try.func17 rfl fun w S hS => by
    refine a_seq ?_
    refine a_run [0] tyOK (st1 := mk 20 [(0, iV k)] []) (by kernel_rfl) ?_
    refine a_seq ?_
    refine a_seq ?_
    refine a_run [3] tyOK (st1 := mk 20 [(3, iV k)] []) (by kernel_rfl) ?_
    refine a_block ?_
    refine a_seq ?_
    refine a_run [3, 4] tyOK (st1 := mk 20 [(3, iV k), (4, bV ((k == 2)))] []) (by kernel_rfl) ?_
    refine a_cond (b := (k == 2)) (by kernel_rfl) (fun h1 => ?_) (fun h1 => ?_)
    · have g1 := h1
      try simp only [beq_iff_eq, beq_eq_false_iff_ne] at g1
      refine a_seq ?_
      refine a_run [2] tyOK (st1 := mk 20 [(2, sV ((⟨#[100, 101, 108, 105, 118, 101, 114]⟩ : ByteArray)))] []) (by kernel_rfl) ?_
      refine a_ret ?_
      have e : wordOf k = (⟨#[100, 101, 108, 105, 118, 101, 114]⟩ : ByteArray) := by rw [wordOf]; rw [h1, cond_true]
      exact end_eq (res' := sV ((⟨#[100, 101, 108, 105, 118, 101, 114]⟩ : ByteArray))) (by kernel_rfl) (by rw [e] <;> rfl)
    · have g1 := h1
      try simp only [beq_iff_eq, beq_eq_false_iff_ne] at g1
      refine a_seq ?_
      refine a_run [3, 6] tyOK (st1 := mk 20 [(3, iV k), (6, bV ((k == 3)))] []) (by kernel_rfl) ?_
      refine a_cond (b := (k == 3)) (by kernel_rfl) (fun h2 => ?_) (fun h2 => ?_)
      · have g2 := h2
        try simp only [beq_iff_eq, beq_eq_false_iff_ne] at g2
        refine a_seq ?_
        refine a_run [2] tyOK (st1 := mk 20 [(2, sV ((⟨#[108, 111, 115, 101]⟩ : ByteArray)))] []) (by kernel_rfl) ?_
        refine a_ret ?_
        have e : wordOf k = (⟨#[108, 111, 115, 101]⟩ : ByteArray) := by rw [wordOf]; rw [h1, cond_false, h2, cond_true]
        exact end_eq (res' := sV ((⟨#[108, 111, 115, 101]⟩ : ByteArray))) (by kernel_rfl) (by rw [e] <;> rfl)
      · have g2 := h2
        try simp only [beq_iff_eq, beq_eq_false_iff_ne] at g2
        refine a_seq ?_
        refine a_run [3, 8] tyOK (st1 := mk 20 [(3, iV k), (8, bV ((k == 4)))] []) (by kernel_rfl) ?_
        refine a_cond (b := (k == 4)) (by kernel_rfl) (fun h3 => ?_) (fun h3 => ?_)
        · have g3 := h3
          try simp only [beq_iff_eq, beq_eq_false_iff_ne] at g3
          refine a_seq ?_
          refine a_run [2] tyOK (st1 := mk 20 [(2, sV ((⟨#[100, 111, 117, 98, 108, 101]⟩ : ByteArray)))] []) (by kernel_rfl) ?_
          refine a_ret ?_
          have e : wordOf k = (⟨#[100, 111, 117, 98, 108, 101]⟩ : ByteArray) := by rw [wordOf]; rw [h1, cond_false, h2, cond_false, h3, cond_true]
          exact end_eq (res' := sV ((⟨#[100, 111, 117, 98, 108, 101]⟩ : ByteArray))) (by kernel_rfl) (by rw [e] <;> rfl)
        · have g3 := h3
          try simp only [beq_iff_eq, beq_eq_false_iff_ne] at g3
          refine a_seq ?_
          refine a_run [3, 10] tyOK (st1 := mk 20 [(3, iV k), (10, bV ((k == 5)))] []) (by kernel_rfl) ?_
          refine a_cond (b := (k == 5)) (by kernel_rfl) (fun h4 => ?_) (fun h4 => ?_)
          · have g4 := h4
            try simp only [beq_iff_eq, beq_eq_false_iff_ne] at g4
            refine a_seq ?_
            refine a_run [2] tyOK (st1 := mk 20 [(2, sV ((⟨#[116, 105, 99, 107]⟩ : ByteArray)))] []) (by kernel_rfl) ?_
            refine a_ret ?_
            have e : wordOf k = (⟨#[116, 105, 99, 107]⟩ : ByteArray) := by rw [wordOf]; rw [h1, cond_false, h2, cond_false, h3, cond_false, h4, cond_true]
            exact end_eq (res' := sV ((⟨#[116, 105, 99, 107]⟩ : ByteArray))) (by kernel_rfl) (by rw [e] <;> rfl)
          · have g4 := h4
            try simp only [beq_iff_eq, beq_eq_false_iff_ne] at g4
            refine a_seq ?_
            refine a_run [3, 12] tyOK (st1 := mk 20 [(3, iV k), (12, bV ((k == 6)))] []) (by kernel_rfl) ?_
            refine a_cond (b := (k == 6)) (by kernel_rfl) (fun h5 => ?_) (fun h5 => ?_)
            · have g5 := h5
              try simp only [beq_iff_eq, beq_eq_false_iff_ne] at g5
              refine a_seq ?_
              refine a_run [2] tyOK (st1 := mk 20 [(2, sV ((⟨#[100, 111, 119, 110]⟩ : ByteArray)))] []) (by kernel_rfl) ?_
              refine a_ret ?_
              have e : wordOf k = (⟨#[100, 111, 119, 110]⟩ : ByteArray) := by rw [wordOf]; rw [h1, cond_false, h2, cond_false, h3, cond_false, h4, cond_false, h5, cond_true]
              exact end_eq (res' := sV ((⟨#[100, 111, 119, 110]⟩ : ByteArray))) (by kernel_rfl) (by rw [e] <;> rfl)
            · have g5 := h5
              try simp only [beq_iff_eq, beq_eq_false_iff_ne] at g5
              refine a_seq ?_
              refine a_run [3, 14] tyOK (st1 := mk 20 [(3, iV k), (14, bV ((k == 7)))] []) (by kernel_rfl) ?_
              refine a_cond (b := (k == 7)) (by kernel_rfl) (fun h6 => ?_) (fun h6 => ?_)
              · have g6 := h6
                try simp only [beq_iff_eq, beq_eq_false_iff_ne] at g6
                refine a_seq ?_
                refine a_run [2] tyOK (st1 := mk 20 [(2, sV ((⟨#[116, 111, 114, 110]⟩ : ByteArray)))] []) (by kernel_rfl) ?_
                refine a_ret ?_
                have e : wordOf k = (⟨#[116, 111, 114, 110]⟩ : ByteArray) := by rw [wordOf]; rw [h1, cond_false, h2, cond_false, h3, cond_false, h4, cond_false, h5, cond_false, h6, cond_true]
                exact end_eq (res' := sV ((⟨#[116, 111, 114, 110]⟩ : ByteArray))) (by kernel_rfl) (by rw [e] <;> rfl)
              · have g6 := h6
                try simp only [beq_iff_eq, beq_eq_false_iff_ne] at g6
                refine a_seq ?_
                refine a_run [3, 16] tyOK (st1 := mk 20 [(3, iV k), (16, bV ((k == 8)))] []) (by kernel_rfl) ?_
                refine a_cond (b := (k == 8)) (by kernel_rfl) (fun h7 => ?_) (fun h7 => ?_)
                · have g7 := h7
                  try simp only [beq_iff_eq, beq_eq_false_iff_ne] at g7
                  refine a_seq ?_
                  refine a_run [2] tyOK (st1 := mk 20 [(2, sV ((⟨#[117, 112]⟩ : ByteArray)))] []) (by kernel_rfl) ?_
                  refine a_ret ?_
                  have e : wordOf k = (⟨#[117, 112]⟩ : ByteArray) := by rw [wordOf]; rw [h1, cond_false, h2, cond_false, h3, cond_false, h4, cond_false, h5, cond_false, h6, cond_false, h7, cond_true]
                  exact end_eq (res' := sV ((⟨#[117, 112]⟩ : ByteArray))) (by kernel_rfl) (by rw [e] <;> rfl)
                · have g7 := h7
                  try simp only [beq_iff_eq, beq_eq_false_iff_ne] at g7
                  refine a_seq ?_
                  refine a_run [18] tyOK (st1 := mk 20 [(18, bV ((k == 9)))] []) (by kernel_rfl) ?_
                  refine a_cond (b := (k == 9)) (by kernel_rfl) (fun h8 => ?_) (fun h8 => ?_)
                  · have g8 := h8
                    try simp only [beq_iff_eq, beq_eq_false_iff_ne] at g8
                    refine a_seq ?_
                    refine a_run [2] tyOK (st1 := mk 20 [(2, sV ((⟨#[99, 97, 108, 109]⟩ : ByteArray)))] []) (by kernel_rfl) ?_
                    refine a_ret ?_
                    have e : wordOf k = (⟨#[99, 97, 108, 109]⟩ : ByteArray) := by rw [wordOf]; rw [h1, cond_false, h2, cond_false, h3, cond_false, h4, cond_false, h5, cond_false, h6, cond_false, h7, cond_false, h8, cond_true]
                    exact end_eq (res' := sV ((⟨#[99, 97, 108, 109]⟩ : ByteArray))) (by kernel_rfl) (by rw [e] <;> rfl)
                  · have g8 := h8
                    try simp only [beq_iff_eq, beq_eq_false_iff_ne] at g8
                    refine a_skip ?_
                    refine a_seq ?_
                    refine a_run [2] tyOK (st1 := mk 20 [(2, sV ((⟨#[]⟩ : ByteArray)))] []) (by kernel_rfl) ?_
                    refine a_ret ?_
                    have e : wordOf k = (⟨#[]⟩ : ByteArray) := by rw [wordOf]; rw [h1, cond_false, h2, cond_false, h3, cond_false, h4, cond_false, h5, cond_false, h6, cond_false, h7, cond_false, h8, cond_false]
                    exact end_eq (res' := sV ((⟨#[]⟩ : ByteArray))) (by kernel_rfl) (by rw [e] <;> rfl)



def wordsS  : (List ByteArray) := [(⟨#[]⟩ : ByteArray), (⟨#[99, 97, 108, 108]⟩ : ByteArray), (⟨#[100, 101, 108, 105, 118, 101, 114]⟩ : ByteArray), (⟨#[108, 111, 115, 101]⟩ : ByteArray), (⟨#[100, 111, 117, 98, 108, 101]⟩ : ByteArray), (⟨#[116, 105, 99, 107]⟩ : ByteArray), (⟨#[100, 111, 119, 110]⟩ : ByteArray), (⟨#[116, 111, 114, 110]⟩ : ByteArray), (⟨#[117, 112]⟩ : ByteArray), (⟨#[99, 97, 108, 109]⟩ : ByteArray)]
/-- spec.l14Words -/
theorem ok12  : CallOK Try.prog 12 [] (.one (.c (.sl 1 ((wordsS).map eStr)))) [] :=
  callOK tyOK Try.func12 rfl fun w S hS => by
    refine a_seq ?_
    refine a_run [] tyOK (st1 := mk 2 [] []) (by kernel_rfl) ?_
    refine a_seq ?_
    refine a_run [0] tyOK (st1 := mk 2 [(0, .one (.so [] 1 0 10))] [(1, [.sl 1 ([[sC ((⟨#[]⟩ : ByteArray))], [sC ((⟨#[99, 97, 108, 108]⟩ : ByteArray))], [sC ((⟨#[100, 101, 108, 105, 118, 101, 114]⟩ : ByteArray))], [sC ((⟨#[108, 111, 115, 101]⟩ : ByteArray))], [sC ((⟨#[100, 111, 117, 98, 108, 101]⟩ : ByteArray))], [sC ((⟨#[116, 105, 99, 107]⟩ : ByteArray))], [sC ((⟨#[100, 111, 119, 110]⟩ : ByteArray))], [sC ((⟨#[116, 111, 114, 110]⟩ : ByteArray))], [sC ((⟨#[117, 112]⟩ : ByteArray))], [sC ((⟨#[99, 97, 108, 109]⟩ : ByteArray))]])])]) (by kernel_rfl) ?_
    refine a_freeze (fun _ _ h => h) [] 1 0 [0] (st' := mk 2 [(0, .one (.c (.sl 1 ([[sC ((⟨#[]⟩ : ByteArray))], [sC ((⟨#[99, 97, 108, 108]⟩ : ByteArray))], [sC ((⟨#[100, 101, 108, 105, 118, 101, 114]⟩ : ByteArray))], [sC ((⟨#[108, 111, 115, 101]⟩ : ByteArray))], [sC ((⟨#[100, 111, 117, 98, 108, 101]⟩ : ByteArray))], [sC ((⟨#[116, 105, 99, 107]⟩ : ByteArray))], [sC ((⟨#[100, 111, 119, 110]⟩ : ByteArray))], [sC ((⟨#[116, 111, 114, 110]⟩ : ByteArray))], [sC ((⟨#[117, 112]⟩ : ByteArray))], [sC ((⟨#[99, 97, 108, 109]⟩ : ByteArray))]]))))] []) (by kernel_rfl) ?_
    refine a_ret ?_
    have e : wordsS = [(⟨#[]⟩ : ByteArray), (⟨#[99, 97, 108, 108]⟩ : ByteArray), (⟨#[100, 101, 108, 105, 118, 101, 114]⟩ : ByteArray), (⟨#[108, 111, 115, 101]⟩ : ByteArray), (⟨#[100, 111, 117, 98, 108, 101]⟩ : ByteArray), (⟨#[116, 105, 99, 107]⟩ : ByteArray), (⟨#[100, 111, 119, 110]⟩ : ByteArray), (⟨#[116, 111, 114, 110]⟩ : ByteArray), (⟨#[117, 112]⟩ : ByteArray), (⟨#[99, 97, 108, 109]⟩ : ByteArray)] := by rw [wordsS]
    exact end_eq (res' := .one (.c (.sl 1 ([[sC ((⟨#[]⟩ : ByteArray))], [sC ((⟨#[99, 97, 108, 108]⟩ : ByteArray))], [sC ((⟨#[100, 101, 108, 105, 118, 101, 114]⟩ : ByteArray))], [sC ((⟨#[108, 111, 115, 101]⟩ : ByteArray))], [sC ((⟨#[100, 111, 117, 98, 108, 101]⟩ : ByteArray))], [sC ((⟨#[116, 105, 99, 107]⟩ : ByteArray))], [sC ((⟨#[100, 111, 119, 110]⟩ : ByteArray))], [sC ((⟨#[116, 111, 114, 110]⟩ : ByteArray))], [sC ((⟨#[117, 112]⟩ : ByteArray))], [sC ((⟨#[99, 97, 108, 109]⟩ : ByteArray))]])))) (by kernel_rfl) (by rw [e] <;> rfl)



end Go.Proofs.Ytabgoibmnjikkaa
