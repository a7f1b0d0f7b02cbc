/- What functions of the given program compute, each proved once, for the law that is proved in YtijmnochaamllaaReplyText: whatever their arguments, under the conditions that each theorem names. -/
import Derived.Test.YtijmnochaamllaaProg
import Derived.Test.YtijmnochaamllaaMvIII
set_option linter.unusedVariables false
set_option linter.unusedSimpArgs false
namespace Go.Proofs.Ytijmnochaamllaa
open Go.Mv Go.RowKit
noncomputable def tyL : List (Nat × TInfo) := [
  (3, { k := .int .i64, size := 1, bytes := 8, zero := .int .i64 0 }),
  (4, { k := .bool, size := 1, bytes := 1, zero := .bool false }),
  (5, { k := .int .u8, size := 1, bytes := 1, zero := .int .u8 0 }),
  (9, { k := .string, size := 1, bytes := 16, zero := .string ⟨#[]⟩ }),
  (22, { k := .slice 83, size := 1, bytes := 24, zero := .slice none 0 0, szs := [2] }),
  (25, { k := .slice 84, size := 1, bytes := 24, zero := .slice none 0 0, szs := [2] }),
  (31, { k := .struct [(0, 3), (1, 3), (2, 3)], size := 3, bytes := 24, zero := .agg #[.int .i64 0, .int .i64 0, .int .i64 0] }),
  (36, { k := .struct [(0, 3), (1, 3), (2, 3)], size := 3, bytes := 24, zero := .agg #[.int .i64 0, .int .i64 0, .int .i64 0] }),
  (41, { k := .struct [(0, 9), (1, 9)], size := 2, bytes := 32, zero := .agg #[.string ⟨#[]⟩, .string ⟨#[]⟩] }),
  (43, { k := .struct [(0, 3), (1, 9), (2, 9), (3, 41), (5, 3), (6, 4)], size := 7, bytes := 88, zero := .agg #[.int .i64 0, .string ⟨#[]⟩, .string ⟨#[]⟩, .string ⟨#[]⟩, .string ⟨#[]⟩, .int .i64 0, .bool false] }),
  (45, { k := .struct [(0, 3), (1, 31), (4, 43), (11, 3), (12, 22)], size := 13, bytes := 152, zero := .agg #[.int .i64 0, .int .i64 0, .int .i64 0, .int .i64 0, .int .i64 0, .string ⟨#[]⟩, .string ⟨#[]⟩, .string ⟨#[]⟩, .string ⟨#[]⟩, .int .i64 0, .bool false, .int .i64 0, .slice none 0 0], szs := [0, 0, 0, 0, 0, 0, 0, 0, 0, 0, 0, 0, 2] }),
  (48, { k := .struct [(0, 9), (1, 9)], size := 2, bytes := 32, zero := .agg #[.string ⟨#[]⟩, .string ⟨#[]⟩] }),
  (50, { k := .struct [(0, 3), (1, 9), (2, 9), (3, 48), (5, 3), (6, 4)], size := 7, bytes := 88, zero := .agg #[.int .i64 0, .string ⟨#[]⟩, .string ⟨#[]⟩, .string ⟨#[]⟩, .string ⟨#[]⟩, .int .i64 0, .bool false] }),
  (52, { k := .struct [(0, 3), (1, 36), (4, 50), (11, 3), (12, 25)], size := 13, bytes := 152, zero := .agg #[.int .i64 0, .int .i64 0, .int .i64 0, .int .i64 0, .int .i64 0, .string ⟨#[]⟩, .string ⟨#[]⟩, .string ⟨#[]⟩, .string ⟨#[]⟩, .int .i64 0, .bool false, .int .i64 0, .slice none 0 0], szs := [0, 0, 0, 0, 0, 0, 0, 0, 0, 0, 0, 0, 2] }),
  (83, { k := .struct [(0, 9), (1, 9)], size := 2, bytes := 32, zero := .agg #[.string ⟨#[]⟩, .string ⟨#[]⟩] }),
  (84, { k := .struct [(0, 9), (1, 9)], size := 2, bytes := 32, zero := .agg #[.string ⟨#[]⟩, .string ⟨#[]⟩] }),
  (91, { k := .slice 9, size := 1, bytes := 24, zero := .slice none 0 0, szs := [1] }),
  (118, { k := .slice 5, size := 1, bytes := 24, zero := .slice none 0 0, szs := [1] }),
  (131, { k := .int .u64, size := 1, bytes := 8, zero := .int .u64 0 })]
noncomputable abbrev Ty := tyOf tyL
theorem tyOK : TyOK Try.prog Ty := tyOf_ok (by
  simp only [tyL, List.forall_mem_cons]
  refine ⟨⟨Try.underlying3, ⟨Try.t3, by kernel_rfl, rfl, rfl, rfl⟩, nofun⟩, ?_⟩
  refine ⟨⟨Try.underlying4, ⟨Try.t4, by kernel_rfl, rfl, rfl, rfl⟩, nofun⟩, ?_⟩
  refine ⟨⟨Try.underlying5, ⟨Try.t5, by kernel_rfl, rfl, rfl, rfl⟩, nofun⟩, ?_⟩
  refine ⟨⟨Try.underlying9, ⟨Try.t9, by kernel_rfl, rfl, rfl, rfl⟩, nofun⟩, ?_⟩
  refine ⟨⟨Try.underlying22, ⟨Try.t22, by kernel_rfl, rfl, rfl, rfl⟩, nofun⟩, ?_⟩
  refine ⟨⟨Try.underlying25, ⟨Try.t25, by kernel_rfl, rfl, rfl, rfl⟩, nofun⟩, ?_⟩
  refine ⟨⟨⟨_, Try.underlying31, rfl⟩, ⟨Try.t31, by kernel_rfl, rfl, rfl, rfl⟩, nofun⟩, ?_⟩
  refine ⟨⟨⟨_, Try.underlying36, rfl⟩, ⟨Try.t36, by kernel_rfl, rfl, rfl, rfl⟩, nofun⟩, ?_⟩
  refine ⟨⟨⟨_, Try.underlying41, rfl⟩, ⟨Try.t41, by kernel_rfl, rfl, rfl, rfl⟩, nofun⟩, ?_⟩
  refine ⟨⟨⟨_, Try.underlying43, rfl⟩, ⟨Try.t43, by kernel_rfl, rfl, rfl, rfl⟩, nofun⟩, ?_⟩
  refine ⟨⟨⟨_, Try.underlying45, rfl⟩, ⟨Try.t45, by kernel_rfl, rfl, rfl, rfl⟩, nofun⟩, ?_⟩
  refine ⟨⟨⟨_, Try.underlying48, rfl⟩, ⟨Try.t48, by kernel_rfl, rfl, rfl, rfl⟩, nofun⟩, ?_⟩
  refine ⟨⟨⟨_, Try.underlying50, rfl⟩, ⟨Try.t50, by kernel_rfl, rfl, rfl, rfl⟩, nofun⟩, ?_⟩
  refine ⟨⟨⟨_, Try.underlying52, rfl⟩, ⟨Try.t52, by kernel_rfl, rfl, rfl, rfl⟩, nofun⟩, ?_⟩
  refine ⟨⟨⟨_, Try.underlying83, rfl⟩, ⟨Try.t83, by kernel_rfl, rfl, rfl, rfl⟩, nofun⟩, ?_⟩
  refine ⟨⟨⟨_, Try.underlying84, rfl⟩, ⟨Try.t84, by kernel_rfl, rfl, rfl, rfl⟩, nofun⟩, ?_⟩
  refine ⟨⟨Try.underlying91, ⟨Try.t91, by kernel_rfl, rfl, rfl, rfl⟩, nofun⟩, ?_⟩
  refine ⟨⟨Try.underlying118, ⟨Try.t118, by kernel_rfl, rfl, rfl, rfl⟩, nofun⟩, ?_⟩
  refine ⟨⟨Try.underlying131, ⟨Try.t131, by kernel_rfl, rfl, rfl, rfl⟩, nofun⟩, ?_⟩
  exact nofun)
def eStr (s : ByteArray) : List C := [sC s]
def eInt (n : Int) : List C := [iC n]
structure Pair where
  k : ByteArray
  v : ByteArray
instance : Inhabited Pair := ⟨⟨⟨#[]⟩, ⟨#[]⟩⟩⟩
def ePair (x : Pair) : List C := [sC x.k, sC x.v]
structure Range where
  lo : ByteArray
  hi : ByteArray
instance : Inhabited Range := ⟨⟨⟨#[]⟩, ⟨#[]⟩⟩⟩
def eRange (x : Range) : List C := [sC x.lo, sC x.hi]
structure Tx where
  c : Int
  e : Int
  n : Int
instance : Inhabited Tx := ⟨⟨0, 0, 0⟩⟩
def eTx (x : Tx) : List C := [iC x.c, iC x.e, iC x.n]
structure Ask where
  kind : Int
  key : ByteArray
  val : ByteArray
  range : Range
  most : Int
  back : Bool
instance : Inhabited Ask := ⟨⟨0, ⟨#[]⟩, ⟨#[]⟩, default, 0, false⟩⟩
def eAsk (x : Ask) : List C := [iC x.kind, sC x.key, sC x.val, sC x.range.lo, sC x.range.hi, iC x.most, bC x.back]
structure Reply where
  kind : Int
  tx : Tx
  ask : Ask
  code : Int
  pairs : List Pair
instance : Inhabited Reply := ⟨⟨0, default, default, 0, []⟩⟩
def eReply (x : Reply) : List C := [iC x.kind, iC x.tx.c, iC x.tx.e, iC x.tx.n, iC x.ask.kind, sC x.ask.key, sC x.ask.val, sC x.ask.range.lo, sC x.ask.range.hi, iC x.ask.most, bC x.ask.back, iC x.code, .sl 2 ((x.pairs).map ePair)]


theorem mv_size_mk (a : Array UInt8) : (⟨a⟩ : ByteArray).size = a.size := rfl
theorem byteAt_lo (s : ByteArray) (n : Int) : 0 ≤ byteAt s n := by unfold byteAt; split <;> omega
theorem byteAt_hi (s : ByteArray) (n : Int) : byteAt s n < 256 := by
  unfold byteAt
  split
  · rename_i h
    have := (s[n.toNat]'h).toNat_lt
    omega
  · omega
def bytesOf (s : ByteArray) : List Int := (List.range s.size).map fun k => byteAt s ((k : Nat) : Int)
theorem bytesOf_length (s : ByteArray) : (bytesOf s).length = s.size := by simp [bytesOf]
theorem drop_bytes {s : ByteArray} {k : Nat} (h : k < s.size) : (bytesOf s).drop k = byteAt s ((k : Nat) : Int) :: (bytesOf s).drop (k + 1) :=
  drop_of_get (by simp [bytesOf, h])

def l01Num (n : Int) : Bool := bif (decide (n ≥ 0)) then (decide (n ≤ 1099511627775)) else false
/-- spec.l01Num -/
theorem okl01Num (n : Int) : CallOK Try.prog 83 [iV n] (bV (l01Num n)) [] :=
  callOK tyOK Try.func83 rfl fun w S hS => by
    refine a_seq ?_
    refine a_run [0] tyOK (st1 := mk 9 [(0, iV n)] []) (by kernel_rfl) ?_
    refine a_seq ?_
    refine a_mid (mk 9 [(2, bV (bif (decide (n ≥ 0)) then (decide (n ≤ 1099511627775)) else false))] []) ?_ ?_
    · refine a_ops [0, 1, 2, 3, 4, 5, 6] (by kernel_rfl) ?_
      refine ao_some [0, 1, 2] [3, 4, 5, 6] [0, 5] tyOK (st1 := mk 9 [(0, iV n), (5, bV (decide (n ≥ 0)))] []) (by kernel_rfl) ?_
      rcases Bool.eq_false_or_eq_true (decide (n ≥ 0)) with h1 | h1
      · rw [h1]
        have g1 := h1
        try simp only [decide_eq_true_eq, decide_eq_false_iff_not] at g1
        refine ao_some [3, 4, 5, 6] [] [2] tyOK (st1 := mk 9 [(2, bV (decide (n ≤ 1099511627775)))] []) (by kernel_rfl) ?_
        exact ao_nil (by show _ = _; kernel_rfl)
      · rw [h1]
        have g1 := h1
        try simp only [decide_eq_true_eq, decide_eq_false_iff_not] at g1
        refine ao_some [3, 4, 5, 6] [] [2] tyOK (st1 := mk 9 [(2, bV false)] []) (by kernel_rfl) ?_
        exact ao_nil (by show _ = _; kernel_rfl)
    refine a_ret ?_
    have e : l01Num n = bif (decide (n ≥ 0)) then (decide (n ≤ 1099511627775)) else false := by rw [l01Num]
    exact end_eq (res' := bV (bif (decide (n ≥ 0)) then (decide (n ≤ 1099511627775)) else false)) (by kernel_rfl) (by rw [e])



def digS (d : Int) : Int := bif (decide (d < 10)) then (IntKind.wrap .u8 (IntKind.wrap .i64 (48 + d))) else (IntKind.wrap .u8 (IntKind.wrap .i64 ((IntKind.wrap .i64 (65 + d)) - 10)))
/-- spec.l01Digit -/
theorem okdigS (d : Int) : CallOK Try.prog 84 [iV d] (.one (.c (.v (.int .u8 (digS d))))) [] :=
  callOK tyOK Try.func84 rfl fun w S hS => by
    refine a_seq ?_
    refine a_run [0] tyOK (st1 := mk 12 [(0, iV d)] []) (by kernel_rfl) ?_
    refine a_seq ?_
    refine a_seq ?_
    refine a_run [0, 4] tyOK (st1 := mk 12 [(0, iV d), (4, bV (decide (d < 10)))] []) (by kernel_rfl) ?_
    refine a_cond (b := decide (d < 10)) (by kernel_rfl) (fun h1 => ?_) (fun h1 => ?_)
    · have g1 := h1
      try simp only [decide_eq_true_eq, decide_eq_false_iff_not] at g1
      refine a_seq ?_
      refine a_run [2] tyOK (st1 := mk 12 [(2, .one (.c (.v (.int .u8 (IntKind.wrap .u8 (IntKind.wrap .i64 (48 + d)))))))] []) (by kernel_rfl) ?_
      refine a_ret ?_
      have e : digS d = IntKind.wrap .u8 (IntKind.wrap .i64 (48 + d)) := by rw [digS]; rw [h1, cond_true]
      exact end_eq (res' := .one (.c (.v (.int .u8 (IntKind.wrap .u8 (IntKind.wrap .i64 (48 + d))))))) (by kernel_rfl) (by rw [e])
    · have g1 := h1
      try simp only [decide_eq_true_eq, decide_eq_false_iff_not] at g1
      refine a_skip ?_
      refine a_seq ?_
      refine a_run [2] tyOK (st1 := mk 12 [(2, .one (.c (.v (.int .u8 (IntKind.wrap .u8 (IntKind.wrap .i64 ((IntKind.wrap .i64 (65 + d)) - 10)))))))] []) (by kernel_rfl) ?_
      refine a_ret ?_
      have e : digS d = IntKind.wrap .u8 (IntKind.wrap .i64 ((IntKind.wrap .i64 (65 + d)) - 10)) := by rw [digS]; rw [h1, cond_false]
      exact end_eq (res' := .one (.c (.v (.int .u8 (IntKind.wrap .u8 (IntKind.wrap .i64 ((IntKind.wrap .i64 (65 + d)) - 10))))))) (by kernel_rfl) (by rw [e])


theorem l01_iff (n : Int) : l01Num n = true ↔ 0 ≤ n ∧ n ≤ 1099511627775 := by
  unfold l01Num
  by_cases h1 : n ≥ 0 <;> by_cases h2 : n ≤ 1099511627775 <;> simp [h1, h2] <;> omega
theorem tdiv_small {n : Int} (h0 : 0 ≤ n) (h1 : n ≤ 1099511627775) : IntKind.wrap .i64 (Int.tdiv n 10) = n / 10 := by
  rw [Int.tdiv_eq_ediv_of_nonneg h0, mv_wrap (by omega) (by omega)]
theorem numDec {n : Int} (h1 : l01Num n = true) (h2 : ¬ n < 10) : (IntKind.wrap .i64 (Int.tdiv n 10)).toNat < n.toNat := by
  have := (l01_iff n).1 h1
  rw [tdiv_small this.1 this.2]
  omega
def numText (n : Int) : ByteArray :=
  if h1 : l01Num n = true then
    if h2 : n < 10 then byteB (IntKind.wrap .u8 (IntKind.wrap .i64 (48 + n)))
    else numText (IntKind.wrap .i64 (Int.tdiv n 10)) ++ byteB (IntKind.wrap .u8 (IntKind.wrap .i64 (48 + (Int.tmod n 10))))
  else ⟨#[]⟩
  termination_by n.toNat
  decreasing_by exact numDec h1 h2
theorem numText_le : ∀ (k : Nat) (n : Int), n < 10 ^ (k + 1) → (numText n).size ≤ k + 1
  | 0, n, h => by
    rw [numText]
    split
    · rw [dif_pos (by simpa using h)]; exact Nat.le_refl 1
    · exact Nat.zero_le _
  | k + 1, n, h => by
    rw [numText]
    split
    · rename_i h1
      have := (l01_iff n).1 h1
      split
      · exact Nat.le_add_left 1 _
      · have h3 := numText_le k (IntKind.wrap .i64 (Int.tdiv n 10)) (by rw [tdiv_small this.1 this.2]; rw [Int.pow_succ] at h; omega)
        rw [ByteArray.size_append, byteB_size]
        omega
    · exact Nat.zero_le _
theorem numText_size (n : Int) : (numText n).size ≤ 13 := by
  by_cases h : n ≤ 1099511627775
  · exact numText_le 12 n (by omega)
  · rw [numText, dif_neg (by rw [l01_iff]; omega)]
    exact Nat.zero_le _

/-- spec.NumText -/
theorem okNumTextS_step (n : Int) (ih : ∀ m : Int, m.toNat < n.toNat → CallOK Try.prog 50 [iV m] (sV (numText m)) []) : CallOK Try.prog 50 [iV n] (sV (numText n)) [] :=
  callOK tyOK Try.func50 rfl fun w S hS => by
    refine a_seq ?_
    refine a_run [0] tyOK (st1 := mk 23 [(0, iV n)] []) (by kernel_rfl) ?_
    refine a_seq ?_
    refine a_seq ?_
    refine a_ops [0, 1, 2] (by kernel_rfl) ?_
    refine ao_some [0] [1, 2] [0, 3] tyOK (st1 := mk 23 [(0, iV n), (3, iV n)] []) (by kernel_rfl) ?_
    refine ao_enter (f := 83) (d := 4) (A := [iV n]) (st1 := mk 23 [(0, iV n), (4, bV (l01Num n))] []) [0, 4] (okl01Num n) Try.call83 (by kernel_rfl) (by kernel_rfl) (by kernel_rfl) ?_
    refine ao_some [2] [] [0, 5] tyOK (st1 := mk 23 [(0, iV n), (5, bV (!(l01Num n)))] []) (by kernel_rfl) ?_
    refine ao_nil ?_
    refine a_cond (b := !(l01Num n)) (by kernel_rfl) (fun h1 => ?_) (fun h1 => ?_)
    · have g1 := h1
      try simp only [Bool.not_eq_true, Bool.not_eq_false, Bool.not_eq_true'] at g1
      refine a_seq ?_
      refine a_run [2] tyOK (st1 := mk 23 [(2, sV ((⟨#[]⟩ : ByteArray)))] []) (by kernel_rfl) ?_
      refine a_ret ?_
      have e : numText n = (⟨#[]⟩ : ByteArray) := by
          rw [numText, dif_neg (by simpa using h1)]
      exact end_eq (res' := sV ((⟨#[]⟩ : ByteArray))) (by kernel_rfl) (by rw [e])
    · have g1 := h1
      try simp only [Bool.not_eq_true, Bool.not_eq_false, Bool.not_eq_true'] at g1
      refine a_skip ?_
      refine a_seq ?_
      refine a_seq ?_
      refine a_run [0, 7] tyOK (st1 := mk 23 [(0, iV n), (7, bV (decide (n < 10)))] []) (by kernel_rfl) ?_
      refine a_cond (b := decide (n < 10)) (by kernel_rfl) (fun h2 => ?_) (fun h2 => ?_)
      · have g2 := h2
        try simp only [decide_eq_true_eq, decide_eq_false_iff_not] at g2
        refine a_seq ?_
        refine a_run [2] tyOK (st1 := mk 23 [(2, sV (byteB (IntKind.wrap .u8 (IntKind.wrap .i64 (48 + n)))))] []) (by kernel_rfl) ?_
        refine a_ret ?_
        have e : numText n = byteB (IntKind.wrap .u8 (IntKind.wrap .i64 (48 + n))) := by
            rw [numText, dif_pos (by simpa using h1), dif_pos g2]
        exact end_eq (res' := sV (byteB (IntKind.wrap .u8 (IntKind.wrap .i64 (48 + n))))) (by kernel_rfl) (by rw [e])
      · have g2 := h2
        try simp only [decide_eq_true_eq, decide_eq_false_iff_not] at g2
        refine a_skip ?_
        refine a_seq ?_
        refine a_mid (mk 23 [(2, sV ((numText (IntKind.wrap .i64 (Int.tdiv n 10))) ++ (byteB (IntKind.wrap .u8 (IntKind.wrap .i64 (48 + (Int.tmod n 10)))))))] []) ?_ ?_
        · refine a_drawn (n := 11) [] (by kernel_rfl) (by kernel_rfl) ?_
          refine aa_take (fuel := 5) (listed' := #[true, true, false, true, true, true, true, false, false, false, false]) (st' := mk 23 [(14, iV (IntKind.wrap .i64 (Int.tdiv n 10))), (19, .one (.c (.v (.int .u8 (IntKind.wrap .u8 (IntKind.wrap .i64 (48 + (Int.tmod n 10))))))))] []) [0, 1, 3, 4, 5, 6] [14, 19] tyOK (by kernel_rfl) (by kernel_rfl) (by kernel_rfl) ?_
          refine aa_all [2, 7] (by kernel_rfl) rfl ?_
          refine aa_cons ?_ ?_
          · refine aone_enter (listed' := #[true, true, true, true, true, true, true, false, false, false, false]) (f := 50) (d := 15) (A := [iV (IntKind.wrap .i64 (Int.tdiv n 10))]) (st1 := mk 23 [(15, sV (numText (IntKind.wrap .i64 (Int.tdiv n 10)))), (19, .one (.c (.v (.int .u8 (IntKind.wrap .u8 (IntKind.wrap .i64 (48 + (Int.tmod n 10))))))))] []) [15, 19] (ih (IntKind.wrap .i64 (Int.tdiv n 10)) (by exact numDec (by simpa using h1) g2)) Try.call50 (by kernel_rfl) (by kernel_rfl) (by kernel_rfl) (by kernel_rfl) ?_
            refine aa_all [7] (by kernel_rfl) rfl ?_
            refine aa_cons ?_ aa_nil
            refine aone_any (listed' := #[true, true, true, true, true, true, true, true, false, false, false]) (st1 := mk 23 [(15, sV (numText (IntKind.wrap .i64 (Int.tdiv n 10)))), (20, .one (.so [] 20 0 1))] [(20, [.sl 1 ([[.v (.int .u8 (IntKind.wrap .u8 (IntKind.wrap .i64 (48 + (Int.tmod n 10)))))]])])]) [15, 20] tyOK (by kernel_rfl) (by kernel_rfl) ?_
            refine aa_all [8] (by kernel_rfl) rfl ?_
            refine aa_cons ?_ aa_nil
            refine aone_any (listed' := #[true, true, true, true, true, true, true, true, true, false, false]) (st1 := mk 23 [(15, sV (numText (IntKind.wrap .i64 (Int.tdiv n 10)))), (21, sV (byteB (IntKind.wrap .u8 (IntKind.wrap .i64 (48 + (Int.tmod n 10))))))] []) [15, 21] tyOK (by kernel_rfl) (by kernel_rfl) ?_
            refine aa_q (i := 9) (d := 22) (c := ((numText (IntKind.wrap .i64 (Int.tdiv n 10))).size + (byteB (IntKind.wrap .u8 (IntKind.wrap .i64 (48 + (Int.tmod n 10))))).size ≤ 140737488355328)) (tv := sV ((numText (IntKind.wrap .i64 (Int.tdiv n 10))) ++ (byteB (IntKind.wrap .u8 (IntKind.wrap .i64 (48 + (Int.tmod n 10))))))) (listed' := #[true, true, true, true, true, true, true, true, true, true, false]) (st1 := mk 23 [(22, sV ((numText (IntKind.wrap .i64 (Int.tdiv n 10))) ++ (byteB (IntKind.wrap .u8 (IntKind.wrap .i64 (48 + (Int.tmod n 10)))))))] []) [22] tyOK (by kernel_rfl) (by kernel_rfl) (by first | (have h1 := numText_size (IntKind.wrap .i64 (Int.tdiv n 10)); simp only [ByteArray.size_append, mv_size_mk, List.size_toArray, List.length_cons, List.length_nil, byteB_size]; omega) | (have h1 := outSize hR; simp only [ByteArray.size_append, mv_size_mk, List.size_toArray, List.length_cons, List.length_nil, byteB_size]; omega) | (simp only [ByteArray.size_append, mv_size_mk, List.size_toArray, List.length_cons, List.length_nil, byteB_size]; omega)) (by kernel_rfl) (by kernel_rfl) (by kernel_rfl) ?_
            refine aa_take (fuel := 0) (listed' := #[true, true, true, true, true, true, true, true, true, true, true]) (st' := mk 23 [(2, sV ((numText (IntKind.wrap .i64 (Int.tdiv n 10))) ++ (byteB (IntKind.wrap .u8 (IntKind.wrap .i64 (48 + (Int.tmod n 10)))))))] []) [10] [2] tyOK (by kernel_rfl) (by kernel_rfl) (by kernel_rfl) ?_
            refine aa_done (by kernel_rfl) ?_
            show _ = _; kernel_rfl
          refine aa_cons ?_ aa_nil
          refine aone_any (listed' := #[true, true, false, true, true, true, true, true, false, false, false]) (st1 := mk 23 [(14, iV (IntKind.wrap .i64 (Int.tdiv n 10))), (20, .one (.so [] 20 0 1))] [(20, [.sl 1 ([[.v (.int .u8 (IntKind.wrap .u8 (IntKind.wrap .i64 (48 + (Int.tmod n 10)))))]])])]) [14, 20] tyOK (by kernel_rfl) (by kernel_rfl) ?_
          refine aa_all [2, 8] (by kernel_rfl) rfl ?_
          refine aa_cons ?_ ?_
          · refine aone_enter (listed' := #[true, true, true, true, true, true, true, true, false, false, false]) (f := 50) (d := 15) (A := [iV (IntKind.wrap .i64 (Int.tdiv n 10))]) (st1 := mk 23 [(15, sV (numText (IntKind.wrap .i64 (Int.tdiv n 10)))), (20, .one (.so [] 20 0 1))] [(20, [.sl 1 ([[.v (.int .u8 (IntKind.wrap .u8 (IntKind.wrap .i64 (48 + (Int.tmod n 10)))))]])])]) [15, 20] (ih (IntKind.wrap .i64 (Int.tdiv n 10)) (by exact numDec (by simpa using h1) g2)) Try.call50 (by kernel_rfl) (by kernel_rfl) (by kernel_rfl) (by kernel_rfl) ?_
            refine aa_all [8] (by kernel_rfl) rfl ?_
            refine aa_cons ?_ aa_nil
            refine aone_any (listed' := #[true, true, true, true, true, true, true, true, true, false, false]) (st1 := mk 23 [(15, sV (numText (IntKind.wrap .i64 (Int.tdiv n 10)))), (21, sV (byteB (IntKind.wrap .u8 (IntKind.wrap .i64 (48 + (Int.tmod n 10))))))] []) [15, 21] tyOK (by kernel_rfl) (by kernel_rfl) ?_
            refine aa_q (i := 9) (d := 22) (c := ((numText (IntKind.wrap .i64 (Int.tdiv n 10))).size + (byteB (IntKind.wrap .u8 (IntKind.wrap .i64 (48 + (Int.tmod n 10))))).size ≤ 140737488355328)) (tv := sV ((numText (IntKind.wrap .i64 (Int.tdiv n 10))) ++ (byteB (IntKind.wrap .u8 (IntKind.wrap .i64 (48 + (Int.tmod n 10))))))) (listed' := #[true, true, true, true, true, true, true, true, true, true, false]) (st1 := mk 23 [(22, sV ((numText (IntKind.wrap .i64 (Int.tdiv n 10))) ++ (byteB (IntKind.wrap .u8 (IntKind.wrap .i64 (48 + (Int.tmod n 10)))))))] []) [22] tyOK (by kernel_rfl) (by kernel_rfl) (by first | (have h1 := numText_size (IntKind.wrap .i64 (Int.tdiv n 10)); simp only [ByteArray.size_append, mv_size_mk, List.size_toArray, List.length_cons, List.length_nil, byteB_size]; omega) | (have h1 := outSize hR; simp only [ByteArray.size_append, mv_size_mk, List.size_toArray, List.length_cons, List.length_nil, byteB_size]; omega) | (simp only [ByteArray.size_append, mv_size_mk, List.size_toArray, List.length_cons, List.length_nil, byteB_size]; omega)) (by kernel_rfl) (by kernel_rfl) (by kernel_rfl) ?_
            refine aa_take (fuel := 0) (listed' := #[true, true, true, true, true, true, true, true, true, true, true]) (st' := mk 23 [(2, sV ((numText (IntKind.wrap .i64 (Int.tdiv n 10))) ++ (byteB (IntKind.wrap .u8 (IntKind.wrap .i64 (48 + (Int.tmod n 10)))))))] []) [10] [2] tyOK (by kernel_rfl) (by kernel_rfl) (by kernel_rfl) ?_
            refine aa_done (by kernel_rfl) ?_
            show _ = _; kernel_rfl
          refine aa_cons ?_ aa_nil
          refine aone_any (listed' := #[true, true, false, true, true, true, true, true, true, false, false]) (st1 := mk 23 [(14, iV (IntKind.wrap .i64 (Int.tdiv n 10))), (21, sV (byteB (IntKind.wrap .u8 (IntKind.wrap .i64 (48 + (Int.tmod n 10))))))] []) [14, 21] tyOK (by kernel_rfl) (by kernel_rfl) ?_
          refine aa_all [2] (by kernel_rfl) rfl ?_
          refine aa_cons ?_ aa_nil
          refine aone_enter (listed' := #[true, true, true, true, true, true, true, true, true, false, false]) (f := 50) (d := 15) (A := [iV (IntKind.wrap .i64 (Int.tdiv n 10))]) (st1 := mk 23 [(15, sV (numText (IntKind.wrap .i64 (Int.tdiv n 10)))), (21, sV (byteB (IntKind.wrap .u8 (IntKind.wrap .i64 (48 + (Int.tmod n 10))))))] []) [15, 21] (ih (IntKind.wrap .i64 (Int.tdiv n 10)) (by exact numDec (by simpa using h1) g2)) Try.call50 (by kernel_rfl) (by kernel_rfl) (by kernel_rfl) (by kernel_rfl) ?_
          refine aa_q (i := 9) (d := 22) (c := ((numText (IntKind.wrap .i64 (Int.tdiv n 10))).size + (byteB (IntKind.wrap .u8 (IntKind.wrap .i64 (48 + (Int.tmod n 10))))).size ≤ 140737488355328)) (tv := sV ((numText (IntKind.wrap .i64 (Int.tdiv n 10))) ++ (byteB (IntKind.wrap .u8 (IntKind.wrap .i64 (48 + (Int.tmod n 10))))))) (listed' := #[true, true, true, true, true, true, true, true, true, true, false]) (st1 := mk 23 [(22, sV ((numText (IntKind.wrap .i64 (Int.tdiv n 10))) ++ (byteB (IntKind.wrap .u8 (IntKind.wrap .i64 (48 + (Int.tmod n 10)))))))] []) [22] tyOK (by kernel_rfl) (by kernel_rfl) (by first | (have h1 := numText_size (IntKind.wrap .i64 (Int.tdiv n 10)); simp only [ByteArray.size_append, mv_size_mk, List.size_toArray, List.length_cons, List.length_nil, byteB_size]; omega) | (have h1 := outSize hR; simp only [ByteArray.size_append, mv_size_mk, List.size_toArray, List.length_cons, List.length_nil, byteB_size]; omega) | (simp only [ByteArray.size_append, mv_size_mk, List.size_toArray, List.length_cons, List.length_nil, byteB_size]; omega)) (by kernel_rfl) (by kernel_rfl) (by kernel_rfl) ?_
          refine aa_take (fuel := 0) (listed' := #[true, true, true, true, true, true, true, true, true, true, true]) (st' := mk 23 [(2, sV ((numText (IntKind.wrap .i64 (Int.tdiv n 10))) ++ (byteB (IntKind.wrap .u8 (IntKind.wrap .i64 (48 + (Int.tmod n 10)))))))] []) [10] [2] tyOK (by kernel_rfl) (by kernel_rfl) (by kernel_rfl) ?_
          refine aa_done (by kernel_rfl) ?_
          show _ = _; kernel_rfl
        refine a_ret ?_
        have e : numText n = (numText (IntKind.wrap .i64 (Int.tdiv n 10))) ++ (byteB (IntKind.wrap .u8 (IntKind.wrap .i64 (48 + (Int.tmod n 10))))) := by
            rw [numText, dif_pos (by simpa using h1), dif_neg g2]
        exact end_eq (res' := sV ((numText (IntKind.wrap .i64 (Int.tdiv n 10))) ++ (byteB (IntKind.wrap .u8 (IntKind.wrap .i64 (48 + (Int.tmod n 10))))))) (by kernel_rfl) (by rw [e])

theorem okNumTextS (n : Int) : CallOK Try.prog 50 [iV n] (sV (numText n)) [] := by
  generalize hm : n.toNat = m
  induction m using Nat.strongRecOn generalizing n with
  | _ m ih => exact okNumTextS_step n fun j hj => ih j.toNat (by omega) j rfl

theorem digS_eq (d : Int) : ∃ x, digS d = IntKind.wrap .u8 x := by
  unfold digS
  cases decide (d < 10) <;> exact ⟨_, rfl⟩
theorem u8_lo (x : Int) : 0 ≤ IntKind.wrap .u8 x := by rw [show IntKind.wrap .u8 x = x % 256 from rfl]; omega
theorem u8_hi (x : Int) : IntKind.wrap .u8 x < 256 := by rw [show IntKind.wrap .u8 x = x % 256 from rfl]; omega
theorem digS_lo (d : Int) : 0 ≤ digS d := by obtain ⟨x, h⟩ := digS_eq d; rw [h]; exact u8_lo x
theorem digS_hi (d : Int) : digS d < 256 := by obtain ⟨x, h⟩ := digS_eq d; rw [h]; exact u8_hi x
def q3 (a b : Int) : ByteArray := byteB 37 ++ (byteB a ++ byteB b)
theorem q3_size (a b : Int) : (q3 a b).size = 3 := by simp only [q3, ByteArray.size_append, byteB_size]
theorem rows1 {o : ByteArray} {a : Int} (h0 : 0 ≤ a) (h1 : a < 256) : byteRows o ++ [[.v (.int .u8 a)]] = byteRows (o ++ byteB a) := by
  rw [← byteRows_append, byteRows_byteB h0 h1]
theorem rows3 {o : ByteArray} {a b : Int} (h0 : 0 ≤ a) (h1 : a < 256) (h2 : 0 ≤ b) (h3 : b < 256) : byteRows o ++ [[.v (.int .u8 37)], [.v (.int .u8 a)], [.v (.int .u8 b)]] = byteRows (o ++ q3 a b) := by
  rw [q3, ← byteRows_append, ← byteRows_append, ← byteRows_append, byteRows_byteB h0 h1, byteRows_byteB h2 h3, byteRows_byteB (by decide) (by decide)]
  rfl
def plainB (b : Int) : Bool := bif decide (b ≥ 33) then bif decide (b ≤ 126) then bif (b != 34) then (b != 37) else false else false else false
def quoteB (b : Int) : ByteArray := bif plainB b then byteB b else q3 (digS (IntKind.wrap .i64 (Int.tdiv (IntKind.wrap .i64 b) 16))) (digS (Int.tmod (IntKind.wrap .i64 b) 16))
def quoteL : List Int → ByteArray → ByteArray
  | [], o => o
  | b :: bs, o => quoteL bs (o ++ quoteB b)
def quote (s : ByteArray) : ByteArray := bif decide ((s.size : Int) > 4096) then ⟨#[]⟩ else quoteL (bytesOf s) (byteB 34) ++ byteB 34
theorem quoteB_size (b : Int) : (quoteB b).size ≤ 3 := by
  unfold quoteB
  cases plainB b
  · rw [cond_false, q3_size]; exact Nat.le_refl 3
  · rw [cond_true, byteB_size]; decide
theorem quoteL_size : ∀ (l : List Int) (o : ByteArray), (quoteL l o).size ≤ o.size + 3 * l.length
  | [], o => by simp [quoteL]
  | b :: bs, o => by
    have h1 := quoteL_size bs (o ++ quoteB b)
    have h2 := quoteB_size b
    rw [ByteArray.size_append] at h1
    rw [quoteL, List.length_cons]
    omega
theorem quote_size (s : ByteArray) : (quote s).size ≤ 12290 := by
  unfold quote
  by_cases h : (s.size : Int) > 4096
  · rw [decide_eq_true h, cond_true]; exact Nat.zero_le _
  · rw [decide_eq_false h, cond_false, ByteArray.size_append, byteB_size]
    have h1 := quoteL_size (bytesOf s) (byteB 34)
    rw [bytesOf_length, byteB_size] at h1
    omega

structure L51_1 (s : ByteArray) where
  k : Nat
  o : ByteArray
  inv : k ≤ s.size ∧ s.size ≤ 4096 ∧ o.size ≤ 3 * k + 1 ∧ quoteL ((bytesOf s).drop k) o = quoteL (bytesOf s) (byteB 34)

/-- spec.Quote -/
theorem okQuoteS (s : ByteArray) : CallOK Try.prog 51 [sV s] (sV (quote s)) [] :=
  callOK tyOK Try.func51 rfl fun w S hS => by
    refine a_seq ?_
    refine a_run [0] tyOK (st1 := mk 52 [(0, sV s)] []) (by kernel_rfl) ?_
    refine a_seq ?_
    refine a_seq ?_
    refine a_run [0, 8] tyOK (st1 := mk 52 [(0, sV s), (8, bV (decide (((s.size : Int)) > 4096)))] []) (by kernel_rfl) ?_
    refine a_cond (b := decide (((s.size : Int)) > 4096)) (by kernel_rfl) (fun h1 => ?_) (fun h1 => ?_)
    · have g1 := h1
      try simp only [decide_eq_true_eq, decide_eq_false_iff_not] at g1
      refine a_seq ?_
      refine a_run [2] tyOK (st1 := mk 52 [(2, sV ((⟨#[]⟩ : ByteArray)))] []) (by kernel_rfl) ?_
      refine a_ret ?_
      have e : quote s = (⟨#[]⟩ : ByteArray) := by
          rw [quote, h1, cond_true]
      exact end_eq (res' := sV ((⟨#[]⟩ : ByteArray))) (by kernel_rfl) (by rw [e])
    · have g1 := h1
      try simp only [decide_eq_true_eq, decide_eq_false_iff_not] at g1
      refine a_skip ?_
      refine a_seq ?_
      refine a_run [0, 3] tyOK (st1 := mk 52 [(0, sV s), (3, .one (.so [] 9 0 1))] [(9, [.sl 1 ([[.v (.int .u8 34)]])])]) (by kernel_rfl) ?_
      refine a_seq ?_
      refine a_seq ?_
      refine a_run [0, 3, 4] tyOK (st1 := mk 52 [(0, sV s), (3, .one (.so [] 9 0 1)), (4, iV 0)] [(9, [.sl 1 ([[.v (.int .u8 34)]])])]) (by kernel_rfl) ?_
      refine a_block ?_
      refine a_keep [0, 3, 4] ?_
      refine a_loop (ι := L51_1 s) (fun ⟨k, o, _⟩ => mk 52 [(0, sV s), (3, .one (.so [] 9 0 o.size)), (4, iV (((k : Nat) : Int)))] [(9, [.sl 1 (byteRows o)])]) (fun ⟨k, o, _⟩ => s.size - k) ⟨0, (byteB 34), Nat.zero_le _, by omega, by rw [byteB_size]; omega, rfl⟩ (by kernel_rfl) ?_
      rintro ⟨k, o, hI⟩
      obtain ⟨hk, hs, ho, hR⟩ := hI
      show AWp _ _ _ _ (mk 52 [(0, sV s), (3, .one (.so [] 9 0 o.size)), (4, iV (((k : Nat) : Int)))] [(9, [.sl 1 (byteRows o)])])
      refine a_seq ?_
      refine a_seq ?_
      refine a_run [0, 3, 4, 13] tyOK (st1 := mk 52 [(0, sV s), (3, .one (.so [] 9 0 o.size)), (4, iV (((k : Nat) : Int))), (13, bV (decide ((((k : Nat) : Int)) < ((s.size : Int)))))] [(9, [.sl 1 (byteRows o)])]) (by kernel_rfl) ?_
      refine a_cond (b := decide ((((k : Nat) : Int)) < ((s.size : Int)))) (by kernel_rfl) (fun h2 => ?_) (fun h2 => ?_)
      · have g2 := h2
        try simp only [decide_eq_true_eq, decide_eq_false_iff_not] at g2
        refine a_skip ?_
        refine a_seq ?_
        refine a_block ?_
        refine a_seq ?_
        refine a_ops [0, 1, 2, 3] (by kernel_rfl) ?_
        refine ao_some [0, 1] [2, 3] [0, 3, 4, 16, 17] tyOK (st1 := mk 52 [(0, sV s), (3, .one (.so [] 9 0 o.size)), (4, iV (((k : Nat) : Int))), (16, sV s), (17, iV (((k : Nat) : Int)))] [(9, [.sl 1 (byteRows o)])]) (by kernel_rfl) ?_
        refine ao_q (d := 18) (c := (0 ≤ (((k : Nat) : Int)) ∧ (((k : Nat) : Int)) < (s.size : Int))) (tv := .one (.c (.v (.int .u8 (byteAt s (((k : Nat) : Int))))))) (st1 := mk 52 [(0, sV s), (3, .one (.so [] 9 0 o.size)), (4, iV (((k : Nat) : Int))), (18, .one (.c (.v (.int .u8 (byteAt s (((k : Nat) : Int)))))))] [(9, [.sl 1 (byteRows o)])]) [0, 3, 4, 18] tyOK (by kernel_rfl) (by first | omega | exact figHi (byteAt_lo _ _) (byteAt_hi _ _) | exact figLo (byteAt_lo _ _) (byteAt_hi _ _)) (by kernel_rfl) ?_
        refine ao_some [3] [] [0, 3, 4, 5] tyOK (st1 := mk 52 [(0, sV s), (3, .one (.so [] 9 0 o.size)), (4, iV (((k : Nat) : Int))), (5, .one (.c (.v (.int .u8 (byteAt s (((k : Nat) : Int)))))))] [(9, [.sl 1 (byteRows o)])]) (by kernel_rfl) ?_
        refine ao_nil ?_
        refine a_seq ?_
        refine a_mid (mk 52 [(0, sV s), (3, .one (.so [] 9 0 o.size)), (4, iV (((k : Nat) : Int))), (5, .one (.c (.v (.int .u8 (byteAt s (((k : Nat) : Int))))))), (32, bV (bif (decide ((byteAt s (((k : Nat) : Int))) ≥ 33)) then (bif (decide ((byteAt s (((k : Nat) : Int))) ≤ 126)) then (bif (((byteAt s (((k : Nat) : Int))) != 34)) then (((byteAt s (((k : Nat) : Int))) != 37)) else false) else false) else false))] [(9, [.sl 1 (byteRows o)])]) ?_ ?_
        · refine a_ops [0, 1, 2, 3, 4, 5, 6, 7, 8, 9, 10, 11, 12, 13] (by kernel_rfl) ?_
          refine ao_some [0, 1, 2] [3, 4, 5, 6, 7, 8, 9, 10, 11, 12, 13] [0, 3, 4, 5, 21] tyOK (st1 := mk 52 [(0, sV s), (3, .one (.so [] 9 0 o.size)), (4, iV (((k : Nat) : Int))), (5, .one (.c (.v (.int .u8 (byteAt s (((k : Nat) : Int))))))), (21, bV (decide ((byteAt s (((k : Nat) : Int))) ≥ 33)))] [(9, [.sl 1 (byteRows o)])]) (by kernel_rfl) ?_
          rcases Bool.eq_false_or_eq_true (decide ((byteAt s (((k : Nat) : Int))) ≥ 33)) with h3 | h3
          · rw [h3]
            have g3 := h3
            try simp only [decide_eq_true_eq, decide_eq_false_iff_not] at g3
            refine ao_some [3, 4, 5, 6] [7, 8, 9, 10, 11, 12, 13] [0, 3, 4, 5, 25] tyOK (st1 := mk 52 [(0, sV s), (3, .one (.so [] 9 0 o.size)), (4, iV (((k : Nat) : Int))), (5, .one (.c (.v (.int .u8 (byteAt s (((k : Nat) : Int))))))), (25, bV (decide ((byteAt s (((k : Nat) : Int))) ≤ 126)))] [(9, [.sl 1 (byteRows o)])]) (by kernel_rfl) ?_
            rcases Bool.eq_false_or_eq_true (decide ((byteAt s (((k : Nat) : Int))) ≤ 126)) with h4 | h4
            · rw [h4]
              have g4 := h4
              try simp only [decide_eq_true_eq, decide_eq_false_iff_not] at g4
              refine ao_some [7, 8, 9, 10] [11, 12, 13] [0, 3, 4, 5, 29] tyOK (st1 := mk 52 [(0, sV s), (3, .one (.so [] 9 0 o.size)), (4, iV (((k : Nat) : Int))), (5, .one (.c (.v (.int .u8 (byteAt s (((k : Nat) : Int))))))), (29, bV (((byteAt s (((k : Nat) : Int))) != 34)))] [(9, [.sl 1 (byteRows o)])]) (by kernel_rfl) ?_
              rcases Bool.eq_false_or_eq_true (((byteAt s (((k : Nat) : Int))) != 34)) with h5 | h5
              · rw [h5]
                have g5 := h5
                try simp only [bne_iff_ne, bne_eq_false_iff_eq, ne_eq] at g5
                refine ao_some [11, 12, 13] [] [0, 3, 4, 5, 32] tyOK (st1 := mk 52 [(0, sV s), (3, .one (.so [] 9 0 o.size)), (4, iV (((k : Nat) : Int))), (5, .one (.c (.v (.int .u8 (byteAt s (((k : Nat) : Int))))))), (32, bV (((byteAt s (((k : Nat) : Int))) != 37)))] [(9, [.sl 1 (byteRows o)])]) (by kernel_rfl) ?_
                exact ao_nil (by show _ = _; kernel_rfl)
              · rw [h5]
                have g5 := h5
                try simp only [bne_iff_ne, bne_eq_false_iff_eq, ne_eq] at g5
                refine ao_some [11, 12, 13] [] [0, 3, 4, 5, 32] tyOK (st1 := mk 52 [(0, sV s), (3, .one (.so [] 9 0 o.size)), (4, iV (((k : Nat) : Int))), (5, .one (.c (.v (.int .u8 (byteAt s (((k : Nat) : Int))))))), (32, bV false)] [(9, [.sl 1 (byteRows o)])]) (by kernel_rfl) ?_
                exact ao_nil (by show _ = _; kernel_rfl)
            · rw [h4]
              have g4 := h4
              try simp only [decide_eq_true_eq, decide_eq_false_iff_not] at g4
              refine ao_some [7, 8, 9, 10, 11, 12, 13] [] [0, 3, 4, 5, 32] tyOK (st1 := mk 52 [(0, sV s), (3, .one (.so [] 9 0 o.size)), (4, iV (((k : Nat) : Int))), (5, .one (.c (.v (.int .u8 (byteAt s (((k : Nat) : Int))))))), (32, bV false)] [(9, [.sl 1 (byteRows o)])]) (by kernel_rfl) ?_
              exact ao_nil (by show _ = _; kernel_rfl)
          · rw [h3]
            have g3 := h3
            try simp only [decide_eq_true_eq, decide_eq_false_iff_not] at g3
            refine ao_some [3, 4, 5, 6, 7, 8, 9, 10, 11, 12, 13] [] [0, 3, 4, 5, 32] tyOK (st1 := mk 52 [(0, sV s), (3, .one (.so [] 9 0 o.size)), (4, iV (((k : Nat) : Int))), (5, .one (.c (.v (.int .u8 (byteAt s (((k : Nat) : Int))))))), (32, bV false)] [(9, [.sl 1 (byteRows o)])]) (by kernel_rfl) ?_
            exact ao_nil (by show _ = _; kernel_rfl)
        refine a_cond (b := bif (decide ((byteAt s (((k : Nat) : Int))) ≥ 33)) then (bif (decide ((byteAt s (((k : Nat) : Int))) ≤ 126)) then (bif (((byteAt s (((k : Nat) : Int))) != 34)) then (((byteAt s (((k : Nat) : Int))) != 37)) else false) else false) else false) (by kernel_rfl) (fun h6 => ?_) (fun h6 => ?_)
        · have g6 := h6
          try simp only [decide_eq_true_eq, decide_eq_false_iff_not, bne_iff_ne, bne_eq_false_iff_eq, ne_eq] at g6
          refine a_ops [0, 1, 2, 3, 4] (by kernel_rfl) ?_
          refine ao_some [0, 1, 2] [3, 4] [0, 4, 33, 35] tyOK (st1 := mk 52 [(0, sV s), (4, iV (((k : Nat) : Int))), (33, .one (.so [] 9 0 o.size)), (35, .one (.so [] 35 0 1))] [(9, [.sl 1 (byteRows o)]), (35, [.sl 1 ([[.v (.int .u8 (byteAt s (((k : Nat) : Int))))]])])]) (by kernel_rfl) ?_
          refine ao_append (d := 36) (n := o.size) (n' := ((o ++ byteB (byteAt s ((k : Nat) : Int))).size)) (bytes := 1) (size := 1) (src := (some ([], 9, 0))) (rows := byteRows o) (new := [[.v (.int .u8 (byteAt s (((k : Nat) : Int))))]]) (rows' := byteRows (o ++ byteB (byteAt s ((k : Nat) : Int)))) (st1 := mk 52 [(0, sV s), (4, iV (((k : Nat) : Int))), (36, .one (.so [] 36 0 ((o ++ byteB (byteAt s ((k : Nat) : Int))).size)))] [(36, [.sl 1 (byteRows (o ++ byteB (byteAt s ((k : Nat) : Int))))])]) [0, 4, 36] tyOK (by kernel_rfl) (byteRows_length _) (by rw [byteRows_length]; simp only [List.length_cons, List.length_nil]; omega) (by kernel_rfl) (by exact rows1 (byteAt_lo _ _) (byteAt_hi _ _)) (by rw [byteRows_length, ByteArray.size_append]; rfl) (by kernel_rfl) ?_
          refine ao_some [4] [] [0, 3, 4] tyOK (st1 := mk 52 [(0, sV s), (3, .one (.so [] 36 0 ((o ++ byteB (byteAt s ((k : Nat) : Int))).size))), (4, iV (((k : Nat) : Int)))] [(36, [.sl 1 (byteRows (o ++ byteB (byteAt s ((k : Nat) : Int))))])]) (by kernel_rfl) ?_
          refine ao_nil ?_
          refine a_rename 36 9 3 [0, 3, 4] (st1 := mk 52 [(0, sV s), (3, .one (.so [] 9 0 ((o ++ byteB (byteAt s ((k : Nat) : Int))).size))), (4, iV (((k : Nat) : Int)))] [(9, [.sl 1 (byteRows (o ++ byteB (byteAt s ((k : Nat) : Int))))])]) (by kernel_rfl) ?_
          refine a_run [0, 3, 4] tyOK (st1 := mk 52 [(0, sV s), (3, .one (.so [] 9 0 ((o ++ byteB (byteAt s ((k : Nat) : Int))).size))), (4, iV (IntKind.wrap .i64 ((((k : Nat) : Int)) + 1)))] [(9, [.sl 1 (byteRows (o ++ byteB (byteAt s ((k : Nat) : Int))))])]) (by kernel_rfl) ?_
          refine ⟨⟨(k + 1), (o ++ byteB (byteAt s ((k : Nat) : Int))), ?_⟩, ?_, ?_⟩
          · exact ⟨by omega, hs, by rw [ByteArray.size_append, byteB_size]; omega, by rw [← hR, drop_bytes (k := k) (by omega), quoteL, quoteB, show plainB _ = true from h6, cond_true]⟩
          · exact (show _ = mk 52 [(0, sV s), (3, .one (.so [] 9 0 ((o ++ byteB (byteAt s ((k : Nat) : Int))).size))), (4, iV (IntKind.wrap .i64 ((((k : Nat) : Int)) + 1)))] [(9, [.sl 1 (byteRows (o ++ byteB (byteAt s ((k : Nat) : Int))))])] by kernel_rfl).trans (by rw [mv_wrap (n := (k : Int) + 1) (by omega) (by omega)]; rfl)
          · dsimp only; omega
        · have g6 := h6
          try simp only [decide_eq_true_eq, decide_eq_false_iff_not, bne_iff_ne, bne_eq_false_iff_eq, ne_eq] at g6
          refine a_ops [0, 1, 2, 3, 4, 5, 6, 7, 8, 9, 10, 11] (by kernel_rfl) ?_
          refine ao_some [0, 1, 2, 3] [4, 5, 6, 7, 8, 9, 10, 11] [0, 4, 5, 37, 40] tyOK (st1 := mk 52 [(0, sV s), (4, iV (((k : Nat) : Int))), (5, .one (.c (.v (.int .u8 (byteAt s (((k : Nat) : Int))))))), (37, .one (.so [] 9 0 o.size)), (40, iV (IntKind.wrap .i64 (Int.tdiv (IntKind.wrap .i64 (byteAt s (((k : Nat) : Int)))) 16)))] [(9, [.sl 1 (byteRows o)])]) (by kernel_rfl) ?_
          refine ao_enter (f := 84) (d := 41) (A := [iV (IntKind.wrap .i64 (Int.tdiv (IntKind.wrap .i64 (byteAt s (((k : Nat) : Int)))) 16))]) (st1 := mk 52 [(0, sV s), (4, iV (((k : Nat) : Int))), (5, .one (.c (.v (.int .u8 (byteAt s (((k : Nat) : Int))))))), (37, .one (.so [] 9 0 o.size)), (41, .one (.c (.v (.int .u8 (digS (IntKind.wrap .i64 (Int.tdiv (IntKind.wrap .i64 (byteAt s (((k : Nat) : Int)))) 16)))))))] [(9, [.sl 1 (byteRows o)])]) [0, 4, 5, 37, 41] (okdigS (IntKind.wrap .i64 (Int.tdiv (IntKind.wrap .i64 (byteAt s (((k : Nat) : Int)))) 16))) Try.call84 (by kernel_rfl) (by kernel_rfl) (by kernel_rfl) ?_
          refine ao_some [5, 6, 7] [8, 9, 10, 11] [0, 4, 37, 41, 44] tyOK (st1 := mk 52 [(0, sV s), (4, iV (((k : Nat) : Int))), (37, .one (.so [] 9 0 o.size)), (41, .one (.c (.v (.int .u8 (digS (IntKind.wrap .i64 (Int.tdiv (IntKind.wrap .i64 (byteAt s (((k : Nat) : Int)))) 16))))))), (44, iV (Int.tmod (IntKind.wrap .i64 (byteAt s (((k : Nat) : Int)))) 16))] [(9, [.sl 1 (byteRows o)])]) (by kernel_rfl) ?_
          refine ao_enter (f := 84) (d := 45) (A := [iV (Int.tmod (IntKind.wrap .i64 (byteAt s (((k : Nat) : Int)))) 16)]) (st1 := mk 52 [(0, sV s), (4, iV (((k : Nat) : Int))), (37, .one (.so [] 9 0 o.size)), (41, .one (.c (.v (.int .u8 (digS (IntKind.wrap .i64 (Int.tdiv (IntKind.wrap .i64 (byteAt s (((k : Nat) : Int)))) 16))))))), (45, .one (.c (.v (.int .u8 (digS (Int.tmod (IntKind.wrap .i64 (byteAt s (((k : Nat) : Int)))) 16))))))] [(9, [.sl 1 (byteRows o)])]) [0, 4, 37, 41, 45] (okdigS (Int.tmod (IntKind.wrap .i64 (byteAt s (((k : Nat) : Int)))) 16)) Try.call84 (by kernel_rfl) (by kernel_rfl) (by kernel_rfl) ?_
          refine ao_some [9] [10, 11] [0, 4, 37, 46] tyOK (st1 := mk 52 [(0, sV s), (4, iV (((k : Nat) : Int))), (37, .one (.so [] 9 0 o.size)), (46, .one (.so [] 46 0 3))] [(9, [.sl 1 (byteRows o)]), (46, [.sl 1 ([[.v (.int .u8 37)], [.v (.int .u8 (digS (IntKind.wrap .i64 (Int.tdiv (IntKind.wrap .i64 (byteAt s (((k : Nat) : Int)))) 16))))], [.v (.int .u8 (digS (Int.tmod (IntKind.wrap .i64 (byteAt s (((k : Nat) : Int)))) 16)))]])])]) (by kernel_rfl) ?_
          refine ao_append (d := 47) (n := o.size) (n' := ((o ++ q3 (digS (IntKind.wrap .i64 (Int.tdiv (IntKind.wrap .i64 (byteAt s ((k : Nat) : Int))) 16))) (digS (Int.tmod (IntKind.wrap .i64 (byteAt s ((k : Nat) : Int))) 16))).size)) (bytes := 1) (size := 1) (src := (some ([], 9, 0))) (rows := byteRows o) (new := [[.v (.int .u8 37)], [.v (.int .u8 (digS (IntKind.wrap .i64 (Int.tdiv (IntKind.wrap .i64 (byteAt s (((k : Nat) : Int)))) 16))))], [.v (.int .u8 (digS (Int.tmod (IntKind.wrap .i64 (byteAt s (((k : Nat) : Int)))) 16)))]]) (rows' := byteRows (o ++ q3 (digS (IntKind.wrap .i64 (Int.tdiv (IntKind.wrap .i64 (byteAt s ((k : Nat) : Int))) 16))) (digS (Int.tmod (IntKind.wrap .i64 (byteAt s ((k : Nat) : Int))) 16)))) (st1 := mk 52 [(0, sV s), (4, iV (((k : Nat) : Int))), (47, .one (.so [] 47 0 ((o ++ q3 (digS (IntKind.wrap .i64 (Int.tdiv (IntKind.wrap .i64 (byteAt s ((k : Nat) : Int))) 16))) (digS (Int.tmod (IntKind.wrap .i64 (byteAt s ((k : Nat) : Int))) 16))).size)))] [(47, [.sl 1 (byteRows (o ++ q3 (digS (IntKind.wrap .i64 (Int.tdiv (IntKind.wrap .i64 (byteAt s ((k : Nat) : Int))) 16))) (digS (Int.tmod (IntKind.wrap .i64 (byteAt s ((k : Nat) : Int))) 16))))])]) [0, 4, 47] tyOK (by kernel_rfl) (byteRows_length _) (by rw [byteRows_length]; simp only [List.length_cons, List.length_nil]; omega) (by kernel_rfl) (by exact rows3 (by first | exact byteAt_lo _ _ | exact digS_lo _) (by first | exact byteAt_hi _ _ | exact digS_hi _) (by first | exact byteAt_lo _ _ | exact digS_lo _) (by first | exact byteAt_hi _ _ | exact digS_hi _)) (by rw [byteRows_length, ByteArray.size_append]; rfl) (by kernel_rfl) ?_
          refine ao_some [11] [] [0, 3, 4] tyOK (st1 := mk 52 [(0, sV s), (3, .one (.so [] 47 0 ((o ++ q3 (digS (IntKind.wrap .i64 (Int.tdiv (IntKind.wrap .i64 (byteAt s ((k : Nat) : Int))) 16))) (digS (Int.tmod (IntKind.wrap .i64 (byteAt s ((k : Nat) : Int))) 16))).size))), (4, iV (((k : Nat) : Int)))] [(47, [.sl 1 (byteRows (o ++ q3 (digS (IntKind.wrap .i64 (Int.tdiv (IntKind.wrap .i64 (byteAt s ((k : Nat) : Int))) 16))) (digS (Int.tmod (IntKind.wrap .i64 (byteAt s ((k : Nat) : Int))) 16))))])]) (by kernel_rfl) ?_
          refine ao_nil ?_
          refine a_rename 47 9 3 [0, 3, 4] (st1 := mk 52 [(0, sV s), (3, .one (.so [] 9 0 ((o ++ q3 (digS (IntKind.wrap .i64 (Int.tdiv (IntKind.wrap .i64 (byteAt s ((k : Nat) : Int))) 16))) (digS (Int.tmod (IntKind.wrap .i64 (byteAt s ((k : Nat) : Int))) 16))).size))), (4, iV (((k : Nat) : Int)))] [(9, [.sl 1 (byteRows (o ++ q3 (digS (IntKind.wrap .i64 (Int.tdiv (IntKind.wrap .i64 (byteAt s ((k : Nat) : Int))) 16))) (digS (Int.tmod (IntKind.wrap .i64 (byteAt s ((k : Nat) : Int))) 16))))])]) (by kernel_rfl) ?_
          refine a_run [0, 3, 4] tyOK (st1 := mk 52 [(0, sV s), (3, .one (.so [] 9 0 ((o ++ q3 (digS (IntKind.wrap .i64 (Int.tdiv (IntKind.wrap .i64 (byteAt s ((k : Nat) : Int))) 16))) (digS (Int.tmod (IntKind.wrap .i64 (byteAt s ((k : Nat) : Int))) 16))).size))), (4, iV (IntKind.wrap .i64 ((((k : Nat) : Int)) + 1)))] [(9, [.sl 1 (byteRows (o ++ q3 (digS (IntKind.wrap .i64 (Int.tdiv (IntKind.wrap .i64 (byteAt s ((k : Nat) : Int))) 16))) (digS (Int.tmod (IntKind.wrap .i64 (byteAt s ((k : Nat) : Int))) 16))))])]) (by kernel_rfl) ?_
          refine ⟨⟨(k + 1), (o ++ q3 (digS (IntKind.wrap .i64 (Int.tdiv (IntKind.wrap .i64 (byteAt s ((k : Nat) : Int))) 16))) (digS (Int.tmod (IntKind.wrap .i64 (byteAt s ((k : Nat) : Int))) 16))), ?_⟩, ?_, ?_⟩
          · exact ⟨by omega, hs, by rw [ByteArray.size_append, q3_size]; omega, by rw [← hR, drop_bytes (k := k) (by omega), quoteL, quoteB, show plainB _ = false from h6, cond_false]⟩
          · exact (show _ = mk 52 [(0, sV s), (3, .one (.so [] 9 0 ((o ++ q3 (digS (IntKind.wrap .i64 (Int.tdiv (IntKind.wrap .i64 (byteAt s ((k : Nat) : Int))) 16))) (digS (Int.tmod (IntKind.wrap .i64 (byteAt s ((k : Nat) : Int))) 16))).size))), (4, iV (IntKind.wrap .i64 ((((k : Nat) : Int)) + 1)))] [(9, [.sl 1 (byteRows (o ++ q3 (digS (IntKind.wrap .i64 (Int.tdiv (IntKind.wrap .i64 (byteAt s ((k : Nat) : Int))) 16))) (digS (Int.tmod (IntKind.wrap .i64 (byteAt s ((k : Nat) : Int))) 16))))])] by kernel_rfl).trans (by rw [mv_wrap (n := (k : Int) + 1) (by omega) (by omega)]; rfl)
          · dsimp only; omega
      · have g2 := h2
        try simp only [decide_eq_true_eq, decide_eq_false_iff_not] at g2
        refine a_exit ?_
        refine a_seq ?_
        refine a_ops [0, 1, 2, 3, 4] (by kernel_rfl) ?_
        refine ao_some [0, 1] [2, 3, 4] [48, 49] tyOK (st1 := mk 52 [(48, .one (.so [] 9 0 o.size)), (49, .one (.so [] 49 0 1))] [(9, [.sl 1 (byteRows o)]), (49, [.sl 1 ([[.v (.int .u8 34)]])])]) (by kernel_rfl) ?_
        refine ao_append (d := 50) (n := o.size) (n' := ((o ++ byteB 34).size)) (bytes := 1) (size := 1) (src := (some ([], 9, 0))) (rows := byteRows o) (new := [[.v (.int .u8 34)]]) (rows' := byteRows (o ++ byteB 34)) (st1 := mk 52 [(50, .one (.so [] 50 0 ((o ++ byteB 34).size)))] [(50, [.sl 1 (byteRows (o ++ byteB 34))])]) [50] tyOK (by kernel_rfl) (byteRows_length _) (by rw [byteRows_length]; simp only [List.length_cons, List.length_nil]; omega) (by kernel_rfl) (by exact rows1 (by decide) (by decide)) (by rw [byteRows_length, ByteArray.size_append]; rfl) (by kernel_rfl) ?_
        refine ao_string (d := 51) (n := ((o ++ byteB 34).size)) (rows := byteRows (o ++ byteB 34)) (s := (o ++ byteB 34)) (st1 := mk 52 [(51, sV (o ++ byteB 34))] []) [51] tyOK (by kernel_rfl) (byteRows_length _) rfl (by kernel_rfl) ?_
        refine ao_some [4] [] [2] tyOK (st1 := mk 52 [(2, sV (o ++ byteB 34))] []) (by kernel_rfl) ?_
        refine ao_nil ?_
        refine a_ret ?_
        have e : quote s = o ++ byteB 34 := by
            rw [quote, h1, cond_false, ← hR, List.drop_eq_nil_of_le (by rw [bytesOf_length]; omega), quoteL]
        exact end_eq (res' := sV (o ++ byteB 34)) (by kernel_rfl) (by rw [e])



def txOkS (x : Tx) : Bool := bif (decide (x.c ≥ 0)) then (bif (decide (x.c ≤ 7)) then (bif (decide (x.e ≥ 1)) then (bif (decide (x.e ≤ 999)) then (bif (decide (x.n ≥ 1)) then (decide (x.n ≤ 999)) else false) else false) else false) else false) else false
/-- spec.TxOk -/
theorem okTxOkS (x : Tx) : CallOK Try.prog 82 [.agg [.c (iC x.c), .c (iC x.e), .c (iC x.n)]] (bV (txOkS x)) [] :=
  callOK tyOK Try.func82 rfl fun w S hS => by
    refine a_seq ?_
    refine a_run [1] tyOK (st1 := mk 31 [(1, .one (.pl [(1, 0)] 0 0))] [(1, [.bx [iC x.c, iC x.e, iC x.n]])]) (by kernel_rfl) ?_
    refine a_seq ?_
    refine a_mid (mk 31 [(2, bV (bif (decide (x.c ≥ 0)) then (bif (decide (x.c ≤ 7)) then (bif (decide (x.e ≥ 1)) then (bif (decide (x.e ≤ 999)) then (bif (decide (x.n ≥ 1)) then (decide (x.n ≤ 999)) else false) else false) else false) else false) else false))] []) ?_ ?_
    · refine a_ops [0, 1, 2, 3, 4, 5, 6, 7, 8, 9, 10, 11, 12, 13, 14, 15, 16, 17, 18, 19, 20, 21, 22, 23, 24, 25, 26, 27, 28] (by kernel_rfl) ?_
      refine ao_some [0, 1, 2, 3] [4, 5, 6, 7, 8, 9, 10, 11, 12, 13, 14, 15, 16, 17, 18, 19, 20, 21, 22, 23, 24, 25, 26, 27, 28] [1, 6] tyOK (st1 := mk 31 [(1, .one (.pl [(1, 0)] 0 0)), (6, bV (decide (x.c ≥ 0)))] [(1, [.bx [iC x.c, iC x.e, iC x.n]])]) (by kernel_rfl) ?_
      rcases Bool.eq_false_or_eq_true (decide (x.c ≥ 0)) with h1 | h1
      · rw [h1]
        have g1 := h1
        try simp only [decide_eq_true_eq, decide_eq_false_iff_not] at g1
        refine ao_some [4, 5, 6, 7, 8] [9, 10, 11, 12, 13, 14, 15, 16, 17, 18, 19, 20, 21, 22, 23, 24, 25, 26, 27, 28] [1, 11] tyOK (st1 := mk 31 [(1, .one (.pl [(1, 0)] 0 0)), (11, bV (decide (x.c ≤ 7)))] [(1, [.bx [iC x.c, iC x.e, iC x.n]])]) (by kernel_rfl) ?_
        rcases Bool.eq_false_or_eq_true (decide (x.c ≤ 7)) with h2 | h2
        · rw [h2]
          have g2 := h2
          try simp only [decide_eq_true_eq, decide_eq_false_iff_not] at g2
          refine ao_some [9, 10, 11, 12, 13] [14, 15, 16, 17, 18, 19, 20, 21, 22, 23, 24, 25, 26, 27, 28] [1, 16] tyOK (st1 := mk 31 [(1, .one (.pl [(1, 0)] 0 0)), (16, bV (decide (x.e ≥ 1)))] [(1, [.bx [iC x.c, iC x.e, iC x.n]])]) (by kernel_rfl) ?_
          rcases Bool.eq_false_or_eq_true (decide (x.e ≥ 1)) with h3 | h3
          · rw [h3]
            have g3 := h3
            try simp only [decide_eq_true_eq, decide_eq_false_iff_not] at g3
            refine ao_some [14, 15, 16, 17, 18] [19, 20, 21, 22, 23, 24, 25, 26, 27, 28] [1, 21] tyOK (st1 := mk 31 [(1, .one (.pl [(1, 0)] 0 0)), (21, bV (decide (x.e ≤ 999)))] [(1, [.bx [iC x.c, iC x.e, iC x.n]])]) (by kernel_rfl) ?_
            rcases Bool.eq_false_or_eq_true (decide (x.e ≤ 999)) with h4 | h4
            · rw [h4]
              have g4 := h4
              try simp only [decide_eq_true_eq, decide_eq_false_iff_not] at g4
              refine ao_some [19, 20, 21, 22, 23] [24, 25, 26, 27, 28] [1, 26] tyOK (st1 := mk 31 [(1, .one (.pl [(1, 0)] 0 0)), (26, bV (decide (x.n ≥ 1)))] [(1, [.bx [iC x.c, iC x.e, iC x.n]])]) (by kernel_rfl) ?_
              rcases Bool.eq_false_or_eq_true (decide (x.n ≥ 1)) with h5 | h5
              · rw [h5]
                have g5 := h5
                try simp only [decide_eq_true_eq, decide_eq_false_iff_not] at g5
                refine ao_some [24, 25, 26, 27, 28] [] [2] tyOK (st1 := mk 31 [(2, bV (decide (x.n ≤ 999)))] []) (by kernel_rfl) ?_
                exact ao_nil (by show _ = _; kernel_rfl)
              · rw [h5]
                have g5 := h5
                try simp only [decide_eq_true_eq, decide_eq_false_iff_not] at g5
                refine ao_some [24, 25, 26, 27, 28] [] [2] tyOK (st1 := mk 31 [(2, bV false)] []) (by kernel_rfl) ?_
                exact ao_nil (by show _ = _; kernel_rfl)
            · rw [h4]
              have g4 := h4
              try simp only [decide_eq_true_eq, decide_eq_false_iff_not] at g4
              refine ao_some [19, 20, 21, 22, 23, 24, 25, 26, 27, 28] [] [2] tyOK (st1 := mk 31 [(2, bV false)] []) (by kernel_rfl) ?_
              exact ao_nil (by show _ = _; kernel_rfl)
          · rw [h3]
            have g3 := h3
            try simp only [decide_eq_true_eq, decide_eq_false_iff_not] at g3
            refine ao_some [14, 15, 16, 17, 18, 19, 20, 21, 22, 23, 24, 25, 26, 27, 28] [] [2] tyOK (st1 := mk 31 [(2, bV false)] []) (by kernel_rfl) ?_
            exact ao_nil (by show _ = _; kernel_rfl)
        · rw [h2]
          have g2 := h2
          try simp only [decide_eq_true_eq, decide_eq_false_iff_not] at g2
          refine ao_some [9, 10, 11, 12, 13, 14, 15, 16, 17, 18, 19, 20, 21, 22, 23, 24, 25, 26, 27, 28] [] [2] tyOK (st1 := mk 31 [(2, bV false)] []) (by kernel_rfl) ?_
          exact ao_nil (by show _ = _; kernel_rfl)
      · rw [h1]
        have g1 := h1
        try simp only [decide_eq_true_eq, decide_eq_false_iff_not] at g1
        refine ao_some [4, 5, 6, 7, 8, 9, 10, 11, 12, 13, 14, 15, 16, 17, 18, 19, 20, 21, 22, 23, 24, 25, 26, 27, 28] [] [2] tyOK (st1 := mk 31 [(2, bV false)] []) (by kernel_rfl) ?_
        exact ao_nil (by show _ = _; kernel_rfl)
    refine a_ret ?_
    have e : txOkS x = bif (decide (x.c ≥ 0)) then (bif (decide (x.c ≤ 7)) then (bif (decide (x.e ≥ 1)) then (bif (decide (x.e ≤ 999)) then (bif (decide (x.n ≥ 1)) then (decide (x.n ≤ 999)) else false) else false) else false) else false) else false := by rw [txOkS]
    exact end_eq (res' := bV (bif (decide (x.c ≥ 0)) then (bif (decide (x.c ≤ 7)) then (bif (decide (x.e ≥ 1)) then (bif (decide (x.e ≤ 999)) then (bif (decide (x.n ≥ 1)) then (decide (x.n ≤ 999)) else false) else false) else false) else false) else false)) (by kernel_rfl) (by rw [e])



def txText (x : Tx) : ByteArray := bif (!(txOkS x)) then ((⟨#[]⟩ : ByteArray)) else (((((numText x.c) ++ ((⟨#[46]⟩ : ByteArray))) ++ (numText x.e)) ++ ((⟨#[46]⟩ : ByteArray))) ++ (numText x.n))
/-- spec.TxText -/
theorem okTxTextS (x : Tx) : CallOK Try.prog 49 [.agg [.c (iC x.c), .c (iC x.e), .c (iC x.n)]] (sV (txText x)) [] :=
  callOK tyOK Try.func49 rfl fun w S hS => by
    refine a_seq ?_
    refine a_run [1] tyOK (st1 := mk 19 [(1, .one (.pl [(1, 0)] 0 0))] [(1, [.bx [iC x.c, iC x.e, iC x.n]])]) (by kernel_rfl) ?_
    refine a_seq ?_
    refine a_seq ?_
    refine a_ops [0, 1, 2] (by kernel_rfl) ?_
    refine ao_some [0] [1, 2] [1, 3] tyOK (st1 := mk 19 [(1, .one (.pl [(1, 0)] 0 0)), (3, .agg [.c (iC x.c), .c (iC x.e), .c (iC x.n)])] [(1, [.bx [iC x.c, iC x.e, iC x.n]])]) (by kernel_rfl) ?_
    refine ao_enter (f := 82) (d := 4) (A := [.agg [.c (iC x.c), .c (iC x.e), .c (iC x.n)]]) (st1 := mk 19 [(1, .one (.pl [(1, 0)] 0 0)), (4, bV (txOkS x))] [(1, [.bx [iC x.c, iC x.e, iC x.n]])]) [1, 4] (okTxOkS x) Try.call82 (by kernel_rfl) (by kernel_rfl) (by kernel_rfl) ?_
    refine ao_some [2] [] [1, 5] tyOK (st1 := mk 19 [(1, .one (.pl [(1, 0)] 0 0)), (5, bV (!(txOkS x)))] [(1, [.bx [iC x.c, iC x.e, iC x.n]])]) (by kernel_rfl) ?_
    refine ao_nil ?_
    refine a_cond (b := !(txOkS x)) (by kernel_rfl) (fun h1 => ?_) (fun h1 => ?_)
    · have g1 := h1
      try simp only [Bool.not_eq_true, Bool.not_eq_false, Bool.not_eq_true'] at g1
      refine a_seq ?_
      refine a_run [2] tyOK (st1 := mk 19 [(2, sV ((⟨#[]⟩ : ByteArray)))] []) (by kernel_rfl) ?_
      refine a_ret ?_
      have e : txText x = (⟨#[]⟩ : ByteArray) := by rw [txText]; rw [h1, cond_true]
      exact end_eq (res' := sV ((⟨#[]⟩ : ByteArray))) (by kernel_rfl) (by rw [e])
    · have g1 := h1
      try simp only [Bool.not_eq_true, Bool.not_eq_false, Bool.not_eq_true'] at g1
      refine a_skip ?_
      refine a_seq ?_
      refine a_mid (mk 19 [(2, sV (((((numText x.c) ++ ((⟨#[46]⟩ : ByteArray))) ++ (numText x.e)) ++ ((⟨#[46]⟩ : ByteArray))) ++ (numText x.n)))] []) ?_ ?_
      · refine a_drawn (n := 14) [] (by kernel_rfl) (by kernel_rfl) ?_
        refine aa_take (fuel := 8) (listed' := #[true, true, false, false, true, true, false, false, false, true, true, false, false, false]) (st' := mk 19 [(7, iV x.c), (11, iV x.e), (16, iV x.n)] []) [0, 1, 4, 5, 9, 10] [7, 11, 16] tyOK (by kernel_rfl) (by kernel_rfl) (by kernel_rfl) ?_
        refine aa_all [2] (by kernel_rfl) rfl ?_
        refine aa_cons ?_ aa_nil
        refine aone_enter (listed' := #[true, true, true, false, true, true, false, false, false, true, true, false, false, false]) (f := 50) (d := 8) (A := [iV x.c]) (st1 := mk 19 [(8, sV (numText x.c)), (11, iV x.e), (16, iV x.n)] []) [8, 11, 16] (okNumTextS x.c) Try.call50 (by kernel_rfl) (by kernel_rfl) (by kernel_rfl) (by kernel_rfl) ?_
        refine aa_q (i := 3) (d := 9) (c := ((numText x.c).size + ((⟨#[46]⟩ : ByteArray)).size ≤ 140737488355328)) (tv := sV ((numText x.c) ++ ((⟨#[46]⟩ : ByteArray)))) (listed' := #[true, true, true, true, true, true, false, false, false, true, true, false, false, false]) (st1 := mk 19 [(9, sV ((numText x.c) ++ ((⟨#[46]⟩ : ByteArray)))), (11, iV x.e), (16, iV x.n)] []) [9, 11, 16] tyOK (by kernel_rfl) (by kernel_rfl) (by have h1 := numText_size x.c; have h2 := numText_size x.e; have h3 := numText_size x.n; simp only [ByteArray.size_append, mv_size_mk, List.size_toArray, List.length_cons, List.length_nil, byteB_size]; omega) (by kernel_rfl) (by kernel_rfl) (by kernel_rfl) ?_
        refine aa_all [6] (by kernel_rfl) rfl ?_
        refine aa_cons ?_ aa_nil
        refine aone_enter (listed' := #[true, true, true, true, true, true, true, false, false, true, true, false, false, false]) (f := 50) (d := 12) (A := [iV x.e]) (st1 := mk 19 [(9, sV ((numText x.c) ++ ((⟨#[46]⟩ : ByteArray)))), (12, sV (numText x.e)), (16, iV x.n)] []) [9, 12, 16] (okNumTextS x.e) Try.call50 (by kernel_rfl) (by kernel_rfl) (by kernel_rfl) (by kernel_rfl) ?_
        refine aa_q (i := 7) (d := 13) (c := (((numText x.c) ++ ((⟨#[46]⟩ : ByteArray))).size + (numText x.e).size ≤ 140737488355328)) (tv := sV (((numText x.c) ++ ((⟨#[46]⟩ : ByteArray))) ++ (numText x.e))) (listed' := #[true, true, true, true, true, true, true, true, false, true, true, false, false, false]) (st1 := mk 19 [(13, sV (((numText x.c) ++ ((⟨#[46]⟩ : ByteArray))) ++ (numText x.e))), (16, iV x.n)] []) [13, 16] tyOK (by kernel_rfl) (by kernel_rfl) (by have h1 := numText_size x.c; have h2 := numText_size x.e; have h3 := numText_size x.n; simp only [ByteArray.size_append, mv_size_mk, List.size_toArray, List.length_cons, List.length_nil, byteB_size]; omega) (by kernel_rfl) (by kernel_rfl) (by kernel_rfl) ?_
        refine aa_q (i := 8) (d := 14) (c := ((((numText x.c) ++ ((⟨#[46]⟩ : ByteArray))) ++ (numText x.e)).size + ((⟨#[46]⟩ : ByteArray)).size ≤ 140737488355328)) (tv := sV ((((numText x.c) ++ ((⟨#[46]⟩ : ByteArray))) ++ (numText x.e)) ++ ((⟨#[46]⟩ : ByteArray)))) (listed' := #[true, true, true, true, true, true, true, true, true, true, true, false, false, false]) (st1 := mk 19 [(14, sV ((((numText x.c) ++ ((⟨#[46]⟩ : ByteArray))) ++ (numText x.e)) ++ ((⟨#[46]⟩ : ByteArray)))), (16, iV x.n)] []) [14, 16] tyOK (by kernel_rfl) (by kernel_rfl) (by have h1 := numText_size x.c; have h2 := numText_size x.e; have h3 := numText_size x.n; simp only [ByteArray.size_append, mv_size_mk, List.size_toArray, List.length_cons, List.length_nil, byteB_size]; omega) (by kernel_rfl) (by kernel_rfl) (by kernel_rfl) ?_
        refine aa_all [11] (by kernel_rfl) rfl ?_
        refine aa_cons ?_ aa_nil
        refine aone_enter (listed' := #[true, true, true, true, true, true, true, true, true, true, true, true, false, false]) (f := 50) (d := 17) (A := [iV x.n]) (st1 := mk 19 [(14, sV ((((numText x.c) ++ ((⟨#[46]⟩ : ByteArray))) ++ (numText x.e)) ++ ((⟨#[46]⟩ : ByteArray)))), (17, sV (numText x.n))] []) [14, 17] (okNumTextS x.n) Try.call50 (by kernel_rfl) (by kernel_rfl) (by kernel_rfl) (by kernel_rfl) ?_
        refine aa_q (i := 12) (d := 18) (c := (((((numText x.c) ++ ((⟨#[46]⟩ : ByteArray))) ++ (numText x.e)) ++ ((⟨#[46]⟩ : ByteArray))).size + (numText x.n).size ≤ 140737488355328)) (tv := sV (((((numText x.c) ++ ((⟨#[46]⟩ : ByteArray))) ++ (numText x.e)) ++ ((⟨#[46]⟩ : ByteArray))) ++ (numText x.n))) (listed' := #[true, true, true, true, true, true, true, true, true, true, true, true, true, false]) (st1 := mk 19 [(18, sV (((((numText x.c) ++ ((⟨#[46]⟩ : ByteArray))) ++ (numText x.e)) ++ ((⟨#[46]⟩ : ByteArray))) ++ (numText x.n)))] []) [18] tyOK (by kernel_rfl) (by kernel_rfl) (by have h1 := numText_size x.c; have h2 := numText_size x.e; have h3 := numText_size x.n; simp only [ByteArray.size_append, mv_size_mk, List.size_toArray, List.length_cons, List.length_nil, byteB_size]; omega) (by kernel_rfl) (by kernel_rfl) (by kernel_rfl) ?_
        refine aa_take (fuel := 0) (listed' := #[true, true, true, true, true, true, true, true, true, true, true, true, true, true]) (st' := mk 19 [(2, sV (((((numText x.c) ++ ((⟨#[46]⟩ : ByteArray))) ++ (numText x.e)) ++ ((⟨#[46]⟩ : ByteArray))) ++ (numText x.n)))] []) [13] [2] tyOK (by kernel_rfl) (by kernel_rfl) (by kernel_rfl) ?_
        refine aa_done (by kernel_rfl) ?_
        show _ = _; kernel_rfl
      refine a_ret ?_
      have e : txText x = ((((numText x.c) ++ ((⟨#[46]⟩ : ByteArray))) ++ (numText x.e)) ++ ((⟨#[46]⟩ : ByteArray))) ++ (numText x.n) := by rw [txText]; rw [h1, cond_false]
      exact end_eq (res' := sV (((((numText x.c) ++ ((⟨#[46]⟩ : ByteArray))) ++ (numText x.e)) ++ ((⟨#[46]⟩ : ByteArray))) ++ (numText x.n))) (by kernel_rfl) (by rw [e])

theorem txText_size (x : Tx) : (txText x).size ≤ 41 := by
  have h1 := numText_size x.c
  have h2 := numText_size x.e
  have h3 := numText_size x.n
  unfold txText
  cases txOkS x <;> simp only [Bool.not_true, Bool.not_false, cond_true, cond_false, ByteArray.size_append, mv_size_mk, List.size_toArray, List.length_cons, List.length_nil, byteB_size] <;> omega

def within (x : Int) (lo : Int) (hi : Int) : Bool := bif (decide (x ≥ lo)) then (decide (x ≤ hi)) else false
/-- impl.within -/
theorem okwithin (x : Int) (lo : Int) (hi : Int) : CallOK Try.prog 98 [iV x, iV lo, iV hi] (bV (within x lo hi)) [] :=
  callOK tyOK Try.func98 rfl fun w S hS => by
    refine a_seq ?_
    refine a_run [0, 1, 2] tyOK (st1 := mk 15 [(0, iV x), (1, iV lo), (2, iV hi)] []) (by kernel_rfl) ?_
    refine a_seq ?_
    refine a_mid (mk 15 [(6, bV (bif (decide (x ≥ lo)) then (decide (x ≤ hi)) else false))] []) ?_ ?_
    · refine a_ops [0, 1, 2, 3, 4, 5, 6, 7, 8] (by kernel_rfl) ?_
      refine ao_some [0, 1, 2, 3] [4, 5, 6, 7, 8] [0, 2, 10] tyOK (st1 := mk 15 [(0, iV x), (2, iV hi), (10, bV (decide (x ≥ lo)))] []) (by kernel_rfl) ?_
      rcases Bool.eq_false_or_eq_true (decide (x ≥ lo)) with h1 | h1
      · rw [h1]
        have g1 := h1
        try simp only [decide_eq_true_eq, decide_eq_false_iff_not] at g1
        refine ao_some [4, 5, 6, 7, 8] [] [6] tyOK (st1 := mk 15 [(6, bV (decide (x ≤ hi)))] []) (by kernel_rfl) ?_
        exact ao_nil (by show _ = _; kernel_rfl)
      · rw [h1]
        have g1 := h1
        try simp only [decide_eq_true_eq, decide_eq_false_iff_not] at g1
        refine ao_some [4, 5, 6, 7, 8] [] [6] tyOK (st1 := mk 15 [(6, bV false)] []) (by kernel_rfl) ?_
        exact ao_nil (by show _ = _; kernel_rfl)
    refine a_ret ?_
    have e : within x lo hi = bif (decide (x ≥ lo)) then (decide (x ≤ hi)) else false := by rw [within]
    exact end_eq (res' := bV (bif (decide (x ≥ lo)) then (decide (x ≤ hi)) else false)) (by kernel_rfl) (by rw [e])



def isNumI (n : Int) : Bool := within n 0 1099511627775
/-- impl.isNum -/
theorem okisNumI (n : Int) : CallOK Try.prog 86 [iV n] (bV (isNumI n)) [] :=
  callOK tyOK Try.func86 rfl fun w S hS => by
    refine a_seq ?_
    refine a_run [0] tyOK (st1 := mk 5 [(0, iV n)] []) (by kernel_rfl) ?_
    refine a_seq ?_
    refine a_ops [0, 1, 2] (by kernel_rfl) ?_
    refine ao_some [0] [1, 2] [3] tyOK (st1 := mk 5 [(3, iV n)] []) (by kernel_rfl) ?_
    refine ao_enter (f := 98) (d := 4) (A := [iV n, iV 0, iV 1099511627775]) (st1 := mk 5 [(4, bV (within n 0 1099511627775))] []) [4] (okwithin n 0 1099511627775) Try.call98 (by kernel_rfl) (by kernel_rfl) (by kernel_rfl) ?_
    refine ao_some [2] [] [2] tyOK (st1 := mk 5 [(2, bV (within n 0 1099511627775))] []) (by kernel_rfl) ?_
    refine ao_nil ?_
    refine a_ret ?_
    have e : isNumI n = within n 0 1099511627775 := by rw [isNumI]
    exact end_eq (res' := bV (within n 0 1099511627775)) (by kernel_rfl) (by rw [e])


theorem isNum_eq (n : Int) : isNumI n = l01Num n := rfl
theorem l01_of {m : Int} (h0 : 0 ≤ m) (hM : m ≤ 1099511627775) : l01Num m = true := (l01_iff m).2 ⟨h0, hM⟩
theorem outSize {m n : Int} {o : ByteArray} (hR : numText m ++ o = numText n) : o.size ≤ 13 := by
  have h1 := numText_size n
  rw [← hR, ByteArray.size_append] at h1
  omega
theorem numIn {n : Int} (h : isNumI n = true) : 0 ≤ n ∧ n ≤ 1099511627775 ∧ numText n ++ ⟨#[]⟩ = numText n := by
  have := (l01_iff n).1 (isNum_eq n ▸ h)
  exact ⟨this.1, this.2, ByteArray.append_empty⟩
theorem numBack {m n : Int} {o : ByteArray} (h0 : 0 ≤ m) (hM : m ≤ 1099511627775) (g : m > 9) (hR : numText m ++ o = numText n) : 0 ≤ IntKind.wrap .i64 (Int.tdiv m 10) ∧ IntKind.wrap .i64 (Int.tdiv m 10) ≤ 1099511627775 ∧
    numText (IntKind.wrap .i64 (Int.tdiv m 10)) ++ (byteB (IntKind.wrap .u8 (IntKind.wrap .i64 (48 + (Int.tmod m 10)))) ++ o) = numText n := by
  refine ⟨by rw [tdiv_small h0 hM]; omega, by rw [tdiv_small h0 hM]; omega, ?_⟩
  rw [← hR, numText.eq_def m, dif_pos (l01_of h0 hM), dif_neg (by omega), ByteArray.append_assoc]
theorem numLess {m : Int} (h0 : 0 ≤ m) (hM : m ≤ 1099511627775) (g : m > 9) : (IntKind.wrap .i64 (Int.tdiv m 10)).toNat < m.toNat := by
  rw [tdiv_small h0 hM]; omega

structure L54_1 (n : Int) where
  m : Int
  o : ByteArray
  inv : 0 ≤ m ∧ m ≤ 1099511627775 ∧ numText m ++ o = numText n

/-- impl.NumText -/
theorem okNumTextI (n : Int) : CallOK Try.prog 54 [iV n] (sV (numText n)) [] :=
  callOK tyOK Try.func54 rfl fun w S hS => by
    refine a_seq ?_
    refine a_run [0] tyOK (st1 := mk 26 [(0, iV n)] []) (by kernel_rfl) ?_
    refine a_seq ?_
    refine a_seq ?_
    refine a_ops [0, 1, 2] (by kernel_rfl) ?_
    refine ao_some [0] [1, 2] [0, 4] tyOK (st1 := mk 26 [(0, iV n), (4, iV n)] []) (by kernel_rfl) ?_
    refine ao_enter (f := 86) (d := 5) (A := [iV n]) (st1 := mk 26 [(0, iV n), (5, bV (isNumI n))] []) [0, 5] (okisNumI n) Try.call86 (by kernel_rfl) (by kernel_rfl) (by kernel_rfl) ?_
    refine ao_some [2] [] [0, 6] tyOK (st1 := mk 26 [(0, iV n), (6, bV (!(isNumI n)))] []) (by kernel_rfl) ?_
    refine ao_nil ?_
    refine a_cond (b := !(isNumI n)) (by kernel_rfl) (fun h1 => ?_) (fun h1 => ?_)
    · have g1 := h1
      try simp only [Bool.not_eq_true, Bool.not_eq_false, Bool.not_eq_true'] at g1
      refine a_seq ?_
      refine a_run [2] tyOK (st1 := mk 26 [(2, sV ((⟨#[]⟩ : ByteArray)))] []) (by kernel_rfl) ?_
      refine a_ret ?_
      have e : numText n = (⟨#[]⟩ : ByteArray) := by
          rw [numText, dif_neg (by rw [← isNum_eq]; simpa using h1)]
      exact end_eq (res' := sV ((⟨#[]⟩ : ByteArray))) (by kernel_rfl) (by rw [e])
    · have g1 := h1
      try simp only [Bool.not_eq_true, Bool.not_eq_false, Bool.not_eq_true'] at g1
      refine a_skip ?_
      refine a_seq ?_
      refine a_run [0, 3] tyOK (st1 := mk 26 [(0, iV n), (3, sV ((⟨#[]⟩ : ByteArray)))] []) (by kernel_rfl) ?_
      refine a_seq ?_
      refine a_block ?_
      refine a_keep [0, 3] ?_
      refine a_loop (ι := L54_1 n) (fun ⟨m, o, _⟩ => mk 26 [(0, iV m), (3, sV o)] []) (fun ⟨m, o, _⟩ => m.toNat) ⟨n, (⟨#[]⟩), numIn (by simpa using h1)⟩ (by kernel_rfl) ?_
      rintro ⟨m, o, hI⟩
      obtain ⟨h0, hM, hR⟩ := hI
      show AWp _ _ _ _ (mk 26 [(0, iV m), (3, sV o)] [])
      refine a_seq ?_
      refine a_seq ?_
      refine a_run [0, 3, 8] tyOK (st1 := mk 26 [(0, iV m), (3, sV o), (8, bV (decide (m > 9)))] []) (by kernel_rfl) ?_
      refine a_cond (b := decide (m > 9)) (by kernel_rfl) (fun h2 => ?_) (fun h2 => ?_)
      · have g2 := h2
        try simp only [decide_eq_true_eq, decide_eq_false_iff_not] at g2
        refine a_skip ?_
        refine a_block ?_
        refine a_seq ?_
        refine a_ops [0, 1, 2, 3, 4, 5, 6, 7, 8] (by kernel_rfl) ?_
        refine ao_some [0, 1, 2, 3, 4, 5, 6] [7, 8] [0, 14, 15] tyOK (st1 := mk 26 [(0, iV m), (14, sV (byteB (IntKind.wrap .u8 (IntKind.wrap .i64 (48 + (Int.tmod m 10)))))), (15, sV o)] []) (by kernel_rfl) ?_
        refine ao_q (d := 16) (c := ((byteB (IntKind.wrap .u8 (IntKind.wrap .i64 (48 + (Int.tmod m 10))))).size + o.size ≤ 140737488355328)) (tv := sV ((byteB (IntKind.wrap .u8 (IntKind.wrap .i64 (48 + (Int.tmod m 10))))) ++ o)) (st1 := mk 26 [(0, iV m), (16, sV ((byteB (IntKind.wrap .u8 (IntKind.wrap .i64 (48 + (Int.tmod m 10))))) ++ o))] []) [0, 16] tyOK (by kernel_rfl) (by first | (have h1 := numText_size (IntKind.wrap .i64 (Int.tdiv n 10)); simp only [ByteArray.size_append, mv_size_mk, List.size_toArray, List.length_cons, List.length_nil, byteB_size]; omega) | (have h1 := outSize hR; simp only [ByteArray.size_append, mv_size_mk, List.size_toArray, List.length_cons, List.length_nil, byteB_size]; omega) | (simp only [ByteArray.size_append, mv_size_mk, List.size_toArray, List.length_cons, List.length_nil, byteB_size]; omega)) (by kernel_rfl) ?_
        refine ao_some [8] [] [0, 3] tyOK (st1 := mk 26 [(0, iV m), (3, sV ((byteB (IntKind.wrap .u8 (IntKind.wrap .i64 (48 + (Int.tmod m 10))))) ++ o))] []) (by kernel_rfl) ?_
        refine ao_nil ?_
        refine a_run [0, 3] tyOK (st1 := mk 26 [(0, iV (IntKind.wrap .i64 (Int.tdiv m 10))), (3, sV ((byteB (IntKind.wrap .u8 (IntKind.wrap .i64 (48 + (Int.tmod m 10))))) ++ o))] []) (by kernel_rfl) ?_
        refine ⟨⟨(IntKind.wrap .i64 (Int.tdiv m 10)), (byteB (IntKind.wrap .u8 (IntKind.wrap .i64 (48 + (Int.tmod m 10)))) ++ o), ?_⟩, ?_, ?_⟩
        · exact numBack h0 hM g2 hR
        · exact (show _ = mk 26 [(0, iV (IntKind.wrap .i64 (Int.tdiv m 10))), (3, sV ((byteB (IntKind.wrap .u8 (IntKind.wrap .i64 (48 + (Int.tmod m 10))))) ++ o))] [] by kernel_rfl).trans (by rfl)
        · exact numLess h0 hM g2
      · have g2 := h2
        try simp only [decide_eq_true_eq, decide_eq_false_iff_not] at g2
        refine a_exit ?_
        refine a_seq ?_
        refine a_ops [0, 1, 2, 3, 4, 5, 6, 7] (by kernel_rfl) ?_
        refine ao_some [0, 1, 2, 3, 4, 5] [6, 7] [23, 24] tyOK (st1 := mk 26 [(23, sV (byteB (IntKind.wrap .u8 (IntKind.wrap .i64 (48 + m))))), (24, sV o)] []) (by kernel_rfl) ?_
        refine ao_q (d := 25) (c := ((byteB (IntKind.wrap .u8 (IntKind.wrap .i64 (48 + m)))).size + o.size ≤ 140737488355328)) (tv := sV ((byteB (IntKind.wrap .u8 (IntKind.wrap .i64 (48 + m)))) ++ o)) (st1 := mk 26 [(25, sV ((byteB (IntKind.wrap .u8 (IntKind.wrap .i64 (48 + m)))) ++ o))] []) [25] tyOK (by kernel_rfl) (by first | (have h1 := numText_size (IntKind.wrap .i64 (Int.tdiv n 10)); simp only [ByteArray.size_append, mv_size_mk, List.size_toArray, List.length_cons, List.length_nil, byteB_size]; omega) | (have h1 := outSize hR; simp only [ByteArray.size_append, mv_size_mk, List.size_toArray, List.length_cons, List.length_nil, byteB_size]; omega) | (simp only [ByteArray.size_append, mv_size_mk, List.size_toArray, List.length_cons, List.length_nil, byteB_size]; omega)) (by kernel_rfl) ?_
        refine ao_some [7] [] [2] tyOK (st1 := mk 26 [(2, sV ((byteB (IntKind.wrap .u8 (IntKind.wrap .i64 (48 + m)))) ++ o))] []) (by kernel_rfl) ?_
        refine ao_nil ?_
        refine a_ret ?_
        have e : numText n = (byteB (IntKind.wrap .u8 (IntKind.wrap .i64 (48 + m)))) ++ o := by
            rw [← hR, numText, dif_pos (l01_of h0 hM), dif_pos (by omega)]
        exact end_eq (res' := sV ((byteB (IntKind.wrap .u8 (IntKind.wrap .i64 (48 + m)))) ++ o)) (by kernel_rfl) (by rw [e])



def txOkI (x : Tx) : Bool := bif (within x.c 0 7) then (bif (within x.e 1 999) then (within x.n 1 999) else false) else false
/-- impl.TxOk -/
theorem okTxOkI (x : Tx) : CallOK Try.prog 85 [.agg [.c (iC x.c), .c (iC x.e), .c (iC x.n)]] (bV (txOkI x)) [] :=
  callOK tyOK Try.func85 rfl fun w S hS => by
    refine a_seq ?_
    refine a_run [1] tyOK (st1 := mk 16 [(1, .one (.pl [(1, 0)] 0 0))] [(1, [.bx [iC x.c, iC x.e, iC x.n]])]) (by kernel_rfl) ?_
    refine a_seq ?_
    refine a_mid (mk 16 [(2, bV (bif (within x.c 0 7) then (bif (within x.e 1 999) then (within x.n 1 999) else false) else false))] []) ?_ ?_
    · refine a_ops [0, 1, 2, 3, 4, 5, 6, 7, 8, 9, 10, 11, 12, 13] (by kernel_rfl) ?_
      refine ao_some [0, 1] [2, 3, 4, 5, 6, 7, 8, 9, 10, 11, 12, 13] [1, 4] tyOK (st1 := mk 16 [(1, .one (.pl [(1, 0)] 0 0)), (4, iV x.c)] [(1, [.bx [iC x.c, iC x.e, iC x.n]])]) (by kernel_rfl) ?_
      refine ao_enter (f := 98) (d := 5) (A := [iV x.c, iV 0, iV 7]) (st1 := mk 16 [(1, .one (.pl [(1, 0)] 0 0)), (5, bV (within x.c 0 7))] [(1, [.bx [iC x.c, iC x.e, iC x.n]])]) [1, 5] (okwithin x.c 0 7) Try.call98 (by kernel_rfl) (by kernel_rfl) (by kernel_rfl) ?_
      refine ao_some [3] [4, 5, 6, 7, 8, 9, 10, 11, 12, 13] [1, 6] tyOK (st1 := mk 16 [(1, .one (.pl [(1, 0)] 0 0)), (6, bV (within x.c 0 7))] [(1, [.bx [iC x.c, iC x.e, iC x.n]])]) (by kernel_rfl) ?_
      rcases Bool.eq_false_or_eq_true (within x.c 0 7) with h1 | h1
      · rw [h1]
        have g1 := h1
        refine ao_some [4, 5] [6, 7, 8, 9, 10, 11, 12, 13] [1, 6, 8] tyOK (st1 := mk 16 [(1, .one (.pl [(1, 0)] 0 0)), (6, bV true), (8, iV x.e)] [(1, [.bx [iC x.c, iC x.e, iC x.n]])]) (by kernel_rfl) ?_
        refine ao_enter (f := 98) (d := 9) (A := [iV x.e, iV 1, iV 999]) (st1 := mk 16 [(1, .one (.pl [(1, 0)] 0 0)), (6, bV true), (9, bV (within x.e 1 999))] [(1, [.bx [iC x.c, iC x.e, iC x.n]])]) [1, 6, 9] (okwithin x.e 1 999) Try.call98 (by kernel_rfl) (by kernel_rfl) (by kernel_rfl) ?_
        refine ao_some [7, 8] [9, 10, 11, 12, 13] [1, 11] tyOK (st1 := mk 16 [(1, .one (.pl [(1, 0)] 0 0)), (11, bV (within x.e 1 999))] [(1, [.bx [iC x.c, iC x.e, iC x.n]])]) (by kernel_rfl) ?_
        rcases Bool.eq_false_or_eq_true (within x.e 1 999) with h2 | h2
        · rw [h2]
          have g2 := h2
          refine ao_some [9, 10] [11, 12, 13] [11, 13] tyOK (st1 := mk 16 [(11, bV true), (13, iV x.n)] []) (by kernel_rfl) ?_
          refine ao_enter (f := 98) (d := 14) (A := [iV x.n, iV 1, iV 999]) (st1 := mk 16 [(11, bV true), (14, bV (within x.n 1 999))] []) [11, 14] (okwithin x.n 1 999) Try.call98 (by kernel_rfl) (by kernel_rfl) (by kernel_rfl) ?_
          refine ao_some [12, 13] [] [2] tyOK (st1 := mk 16 [(2, bV (within x.n 1 999))] []) (by kernel_rfl) ?_
          exact ao_nil (by show _ = _; kernel_rfl)
        · rw [h2]
          have g2 := h2
          refine ao_some [9, 10, 11, 12, 13] [] [2] tyOK (st1 := mk 16 [(2, bV false)] []) (by kernel_rfl) ?_
          exact ao_nil (by show _ = _; kernel_rfl)
      · rw [h1]
        have g1 := h1
        refine ao_some [4, 5, 6, 7, 8, 9, 10, 11, 12, 13] [] [2] tyOK (st1 := mk 16 [(2, bV false)] []) (by kernel_rfl) ?_
        exact ao_nil (by show _ = _; kernel_rfl)
    refine a_ret ?_
    have e : txOkI x = bif (within x.c 0 7) then (bif (within x.e 1 999) then (within x.n 1 999) else false) else false := by rw [txOkI]
    exact end_eq (res' := bV (bif (within x.c 0 7) then (bif (within x.e 1 999) then (within x.n 1 999) else false) else false)) (by kernel_rfl) (by rw [e])


theorem txOk_eq (x : Tx) : txOkI x = txOkS x := by
  unfold txOkI txOkS within
  cases decide (x.c ≥ 0) <;> cases decide (x.c ≤ 7) <;> cases decide (x.e ≥ 1) <;> cases decide (x.e ≤ 999) <;> rfl
/-- impl.TxText -/
theorem okTxTextI (x : Tx) : CallOK Try.prog 53 [.agg [.c (iC x.c), .c (iC x.e), .c (iC x.n)]] (sV (txText x)) [] :=
  callOK tyOK Try.func53 rfl fun w S hS => by
    refine a_seq ?_
    refine a_run [1] tyOK (st1 := mk 19 [(1, .one (.pl [(1, 0)] 0 0))] [(1, [.bx [iC x.c, iC x.e, iC x.n]])]) (by kernel_rfl) ?_
    refine a_seq ?_
    refine a_seq ?_
    refine a_ops [0, 1, 2] (by kernel_rfl) ?_
    refine ao_some [0] [1, 2] [1, 3] tyOK (st1 := mk 19 [(1, .one (.pl [(1, 0)] 0 0)), (3, .agg [.c (iC x.c), .c (iC x.e), .c (iC x.n)])] [(1, [.bx [iC x.c, iC x.e, iC x.n]])]) (by kernel_rfl) ?_
    refine ao_enter (f := 85) (d := 4) (A := [.agg [.c (iC x.c), .c (iC x.e), .c (iC x.n)]]) (st1 := mk 19 [(1, .one (.pl [(1, 0)] 0 0)), (4, bV (txOkI x))] [(1, [.bx [iC x.c, iC x.e, iC x.n]])]) [1, 4] (okTxOkI x) Try.call85 (by kernel_rfl) (by kernel_rfl) (by kernel_rfl) ?_
    refine ao_some [2] [] [1, 5] tyOK (st1 := mk 19 [(1, .one (.pl [(1, 0)] 0 0)), (5, bV (!(txOkI x)))] [(1, [.bx [iC x.c, iC x.e, iC x.n]])]) (by kernel_rfl) ?_
    refine ao_nil ?_
    refine a_cond (b := !(txOkI x)) (by kernel_rfl) (fun h1 => ?_) (fun h1 => ?_)
    · have g1 := h1
      try simp only [Bool.not_eq_true, Bool.not_eq_false, Bool.not_eq_true'] at g1
      refine a_seq ?_
      refine a_run [2] tyOK (st1 := mk 19 [(2, sV ((⟨#[]⟩ : ByteArray)))] []) (by kernel_rfl) ?_
      refine a_ret ?_
      have e : txText x = (⟨#[]⟩ : ByteArray) := by
          rw [txText, ← txOk_eq, h1, cond_true]
      exact end_eq (res' := sV ((⟨#[]⟩ : ByteArray))) (by kernel_rfl) (by rw [e])
    · have g1 := h1
      try simp only [Bool.not_eq_true, Bool.not_eq_false, Bool.not_eq_true'] at g1
      refine a_skip ?_
      refine a_seq ?_
      refine a_mid (mk 19 [(2, sV (((((numText x.c) ++ ((⟨#[46]⟩ : ByteArray))) ++ (numText x.e)) ++ ((⟨#[46]⟩ : ByteArray))) ++ (numText x.n)))] []) ?_ ?_
      · refine a_drawn (n := 14) [] (by kernel_rfl) (by kernel_rfl) ?_
        refine aa_take (fuel := 8) (listed' := #[true, true, false, false, true, true, false, false, false, true, true, false, false, false]) (st' := mk 19 [(7, iV x.c), (11, iV x.e), (16, iV x.n)] []) [0, 1, 4, 5, 9, 10] [7, 11, 16] tyOK (by kernel_rfl) (by kernel_rfl) (by kernel_rfl) ?_
        refine aa_all [2] (by kernel_rfl) rfl ?_
        refine aa_cons ?_ aa_nil
        refine aone_enter (listed' := #[true, true, true, false, true, true, false, false, false, true, true, false, false, false]) (f := 54) (d := 8) (A := [iV x.c]) (st1 := mk 19 [(8, sV (numText x.c)), (11, iV x.e), (16, iV x.n)] []) [8, 11, 16] (okNumTextI x.c) Try.call54 (by kernel_rfl) (by kernel_rfl) (by kernel_rfl) (by kernel_rfl) ?_
        refine aa_q (i := 3) (d := 9) (c := ((numText x.c).size + ((⟨#[46]⟩ : ByteArray)).size ≤ 140737488355328)) (tv := sV ((numText x.c) ++ ((⟨#[46]⟩ : ByteArray)))) (listed' := #[true, true, true, true, true, true, false, false, false, true, true, false, false, false]) (st1 := mk 19 [(9, sV ((numText x.c) ++ ((⟨#[46]⟩ : ByteArray)))), (11, iV x.e), (16, iV x.n)] []) [9, 11, 16] tyOK (by kernel_rfl) (by kernel_rfl) (by have h1 := numText_size x.c; have h2 := numText_size x.e; have h3 := numText_size x.n; simp only [ByteArray.size_append, mv_size_mk, List.size_toArray, List.length_cons, List.length_nil, byteB_size]; omega) (by kernel_rfl) (by kernel_rfl) (by kernel_rfl) ?_
        refine aa_all [6] (by kernel_rfl) rfl ?_
        refine aa_cons ?_ aa_nil
        refine aone_enter (listed' := #[true, true, true, true, true, true, true, false, false, true, true, false, false, false]) (f := 54) (d := 12) (A := [iV x.e]) (st1 := mk 19 [(9, sV ((numText x.c) ++ ((⟨#[46]⟩ : ByteArray)))), (12, sV (numText x.e)), (16, iV x.n)] []) [9, 12, 16] (okNumTextI x.e) Try.call54 (by kernel_rfl) (by kernel_rfl) (by kernel_rfl) (by kernel_rfl) ?_
        refine aa_q (i := 7) (d := 13) (c := (((numText x.c) ++ ((⟨#[46]⟩ : ByteArray))).size + (numText x.e).size ≤ 140737488355328)) (tv := sV (((numText x.c) ++ ((⟨#[46]⟩ : ByteArray))) ++ (numText x.e))) (listed' := #[true, true, true, true, true, true, true, true, false, true, true, false, false, false]) (st1 := mk 19 [(13, sV (((numText x.c) ++ ((⟨#[46]⟩ : ByteArray))) ++ (numText x.e))), (16, iV x.n)] []) [13, 16] tyOK (by kernel_rfl) (by kernel_rfl) (by have h1 := numText_size x.c; have h2 := numText_size x.e; have h3 := numText_size x.n; simp only [ByteArray.size_append, mv_size_mk, List.size_toArray, List.length_cons, List.length_nil, byteB_size]; omega) (by kernel_rfl) (by kernel_rfl) (by kernel_rfl) ?_
        refine aa_q (i := 8) (d := 14) (c := ((((numText x.c) ++ ((⟨#[46]⟩ : ByteArray))) ++ (numText x.e)).size + ((⟨#[46]⟩ : ByteArray)).size ≤ 140737488355328)) (tv := sV ((((numText x.c) ++ ((⟨#[46]⟩ : ByteArray))) ++ (numText x.e)) ++ ((⟨#[46]⟩ : ByteArray)))) (listed' := #[true, true, true, true, true, true, true, true, true, true, true, false, false, false]) (st1 := mk 19 [(14, sV ((((numText x.c) ++ ((⟨#[46]⟩ : ByteArray))) ++ (numText x.e)) ++ ((⟨#[46]⟩ : ByteArray)))), (16, iV x.n)] []) [14, 16] tyOK (by kernel_rfl) (by kernel_rfl) (by have h1 := numText_size x.c; have h2 := numText_size x.e; have h3 := numText_size x.n; simp only [ByteArray.size_append, mv_size_mk, List.size_toArray, List.length_cons, List.length_nil, byteB_size]; omega) (by kernel_rfl) (by kernel_rfl) (by kernel_rfl) ?_
        refine aa_all [11] (by kernel_rfl) rfl ?_
        refine aa_cons ?_ aa_nil
        refine aone_enter (listed' := #[true, true, true, true, true, true, true, true, true, true, true, true, false, false]) (f := 54) (d := 17) (A := [iV x.n]) (st1 := mk 19 [(14, sV ((((numText x.c) ++ ((⟨#[46]⟩ : ByteArray))) ++ (numText x.e)) ++ ((⟨#[46]⟩ : ByteArray)))), (17, sV (numText x.n))] []) [14, 17] (okNumTextI x.n) Try.call54 (by kernel_rfl) (by kernel_rfl) (by kernel_rfl) (by kernel_rfl) ?_
        refine aa_q (i := 12) (d := 18) (c := (((((numText x.c) ++ ((⟨#[46]⟩ : ByteArray))) ++ (numText x.e)) ++ ((⟨#[46]⟩ : ByteArray))).size + (numText x.n).size ≤ 140737488355328)) (tv := sV (((((numText x.c) ++ ((⟨#[46]⟩ : ByteArray))) ++ (numText x.e)) ++ ((⟨#[46]⟩ : ByteArray))) ++ (numText x.n))) (listed' := #[true, true, true, true, true, true, true, true, true, true, true, true, true, false]) (st1 := mk 19 [(18, sV (((((numText x.c) ++ ((⟨#[46]⟩ : ByteArray))) ++ (numText x.e)) ++ ((⟨#[46]⟩ : ByteArray))) ++ (numText x.n)))] []) [18] tyOK (by kernel_rfl) (by kernel_rfl) (by have h1 := numText_size x.c; have h2 := numText_size x.e; have h3 := numText_size x.n; simp only [ByteArray.size_append, mv_size_mk, List.size_toArray, List.length_cons, List.length_nil, byteB_size]; omega) (by kernel_rfl) (by kernel_rfl) (by kernel_rfl) ?_
        refine aa_take (fuel := 0) (listed' := #[true, true, true, true, true, true, true, true, true, true, true, true, true, true]) (st' := mk 19 [(2, sV (((((numText x.c) ++ ((⟨#[46]⟩ : ByteArray))) ++ (numText x.e)) ++ ((⟨#[46]⟩ : ByteArray))) ++ (numText x.n)))] []) [13] [2] tyOK (by kernel_rfl) (by kernel_rfl) (by kernel_rfl) ?_
        refine aa_done (by kernel_rfl) ?_
        show _ = _; kernel_rfl
      refine a_ret ?_
      have e : txText x = ((((numText x.c) ++ ((⟨#[46]⟩ : ByteArray))) ++ (numText x.e)) ++ ((⟨#[46]⟩ : ByteArray))) ++ (numText x.n) := by
          rw [txText, ← txOk_eq, h1, cond_false]
      exact end_eq (res' := sV (((((numText x.c) ++ ((⟨#[46]⟩ : ByteArray))) ++ (numText x.e)) ++ ((⟨#[46]⟩ : ByteArray))) ++ (numText x.n))) (by kernel_rfl) (by rw [e])


def figs : ByteArray := ⟨#[48, 49, 50, 51, 52, 53, 54, 55, 56, 57, 65, 66, 67, 68, 69, 70]⟩
def plainI (b : Int) : Bool := bif within (IntKind.wrap .i64 b) 33 126 then bif (b != 34) then (b != 37) else false else false
def loB (b : Int) : Int := IntKind.wrap .u8 (((BitVec.ofInt 8 b &&& BitVec.ofInt 8 15).toNat : Nat) : Int)
def quoteI (b : Int) : ByteArray := bif plainI b then byteB b else q3 (byteAt figs (Int.fdiv b 16)) (byteAt figs (loB b))
theorem fig_all : ∀ n : Fin 256, (plainI ((n.1 : Nat) : Int) == plainB ((n.1 : Nat) : Int) && byteAt figs (Int.fdiv ((n.1 : Nat) : Int) 16) == digS (IntKind.wrap .i64 (Int.tdiv (IntKind.wrap .i64 ((n.1 : Nat) : Int)) 16)) &&
    byteAt figs (loB ((n.1 : Nat) : Int)) == digS (Int.tmod (IntKind.wrap .i64 ((n.1 : Nat) : Int)) 16) && decide (0 ≤ Int.fdiv ((n.1 : Nat) : Int) 16 ∧ Int.fdiv ((n.1 : Nat) : Int) 16 < 16) && decide (0 ≤ loB ((n.1 : Nat) : Int) ∧ loB ((n.1 : Nat) : Int) < 16)) = true := by decide +kernel
theorem fig_at {b : Int} (h0 : 0 ≤ b) (h1 : b < 256) : plainI b = plainB b ∧ byteAt figs (Int.fdiv b 16) = digS (IntKind.wrap .i64 (Int.tdiv (IntKind.wrap .i64 b) 16)) ∧ byteAt figs (loB b) = digS (Int.tmod (IntKind.wrap .i64 b) 16) ∧
    (0 ≤ Int.fdiv b 16 ∧ Int.fdiv b 16 < 16) ∧ (0 ≤ loB b ∧ loB b < 16) := by
  have h := fig_all ⟨b.toNat, by omega⟩
  rw [show ((b.toNat : Nat) : Int) = b by omega] at h
  simp only [Bool.and_eq_true, beq_iff_eq, decide_eq_true_eq] at h
  exact ⟨h.1.1.1.1, h.1.1.1.2, h.1.1.2, h.1.2, h.2⟩
theorem quoteI_eq {b : Int} (h0 : 0 ≤ b) (h1 : b < 256) : quoteI b = quoteB b := by
  obtain ⟨e1, e2, e3, _⟩ := fig_at h0 h1
  unfold quoteI quoteB
  rw [e1, e2, e3]
theorem figHi {b : Int} (h0 : 0 ≤ b) (h1 : b < 256) : 0 ≤ Int.fdiv b 16 ∧ Int.fdiv b 16 < ((⟨#[48, 49, 50, 51, 52, 53, 54, 55, 56, 57, 65, 66, 67, 68, 69, 70]⟩ : ByteArray).size : Int) := (fig_at h0 h1).2.2.2.1
theorem figLo {b : Int} (h0 : 0 ≤ b) (h1 : b < 256) : 0 ≤ IntKind.wrap .u8 (((BitVec.ofInt 8 b &&& BitVec.ofInt 8 15).toNat : Nat) : Int) ∧ IntKind.wrap .u8 (((BitVec.ofInt 8 b &&& BitVec.ofInt 8 15).toNat : Nat) : Int) < ((⟨#[48, 49, 50, 51, 52, 53, 54, 55, 56, 57, 65, 66, 67, 68, 69, 70]⟩ : ByteArray).size : Int) := (fig_at h0 h1).2.2.2.2

structure L87_1 (s : ByteArray) where
  k : Nat
  o : ByteArray
  inv : k ≤ s.size ∧ s.size ≤ 4096 ∧ o.size ≤ 3 * k + 1 ∧ quoteL ((bytesOf s).drop k) o = quoteL (bytesOf s) (byteB 34)

/-- impl.Quote -/
theorem okQuoteI (s : ByteArray) : CallOK Try.prog 87 [sV s] (sV (quote s)) [] :=
  callOK tyOK Try.func87 rfl fun w S hS => by
    refine a_seq ?_
    refine a_run [0] tyOK (st1 := mk 47 [(0, sV s)] []) (by kernel_rfl) ?_
    refine a_seq ?_
    refine a_seq ?_
    refine a_run [0, 8] tyOK (st1 := mk 47 [(0, sV s), (8, bV (decide (((s.size : Int)) > 4096)))] []) (by kernel_rfl) ?_
    refine a_cond (b := decide (((s.size : Int)) > 4096)) (by kernel_rfl) (fun h1 => ?_) (fun h1 => ?_)
    · have g1 := h1
      try simp only [decide_eq_true_eq, decide_eq_false_iff_not] at g1
      refine a_seq ?_
      refine a_run [2] tyOK (st1 := mk 47 [(2, sV ((⟨#[]⟩ : ByteArray)))] []) (by kernel_rfl) ?_
      refine a_ret ?_
      have e : quote s = (⟨#[]⟩ : ByteArray) := by
          rw [quote, h1, cond_true]
      exact end_eq (res' := sV ((⟨#[]⟩ : ByteArray))) (by kernel_rfl) (by rw [e])
    · have g1 := h1
      try simp only [decide_eq_true_eq, decide_eq_false_iff_not] at g1
      refine a_skip ?_
      refine a_seq ?_
      refine a_run [0, 3] tyOK (st1 := mk 47 [(0, sV s), (3, .one (.so [] 9 0 1))] [(9, [.sl 1 ([[.v (.int .u8 34)]])])]) (by kernel_rfl) ?_
      refine a_seq ?_
      refine a_seq ?_
      refine a_run [0, 3, 4] tyOK (st1 := mk 47 [(0, sV s), (3, .one (.so [] 9 0 1)), (4, iV 0)] [(9, [.sl 1 ([[.v (.int .u8 34)]])])]) (by kernel_rfl) ?_
      refine a_block ?_
      refine a_keep [0, 3, 4] ?_
      refine a_loop (ι := L87_1 s) (fun ⟨k, o, _⟩ => mk 47 [(0, sV s), (3, .one (.so [] 9 0 o.size)), (4, iV (((k : Nat) : Int)))] [(9, [.sl 1 (byteRows o)])]) (fun ⟨k, o, _⟩ => s.size - k) ⟨0, (byteB 34), Nat.zero_le _, by omega, by rw [byteB_size]; omega, rfl⟩ (by kernel_rfl) ?_
      rintro ⟨k, o, hI⟩
      obtain ⟨hk, hs, ho, hR⟩ := hI
      show AWp _ _ _ _ (mk 47 [(0, sV s), (3, .one (.so [] 9 0 o.size)), (4, iV (((k : Nat) : Int)))] [(9, [.sl 1 (byteRows o)])])
      refine a_seq ?_
      refine a_seq ?_
      refine a_run [0, 3, 4, 13] tyOK (st1 := mk 47 [(0, sV s), (3, .one (.so [] 9 0 o.size)), (4, iV (((k : Nat) : Int))), (13, bV (decide ((((k : Nat) : Int)) < ((s.size : Int)))))] [(9, [.sl 1 (byteRows o)])]) (by kernel_rfl) ?_
      refine a_cond (b := decide ((((k : Nat) : Int)) < ((s.size : Int)))) (by kernel_rfl) (fun h2 => ?_) (fun h2 => ?_)
      · have g2 := h2
        try simp only [decide_eq_true_eq, decide_eq_false_iff_not] at g2
        refine a_skip ?_
        refine a_seq ?_
        refine a_block ?_
        refine a_seq ?_
        refine a_ops [0, 1, 2, 3] (by kernel_rfl) ?_
        refine ao_some [0, 1] [2, 3] [0, 3, 4, 16, 17] tyOK (st1 := mk 47 [(0, sV s), (3, .one (.so [] 9 0 o.size)), (4, iV (((k : Nat) : Int))), (16, sV s), (17, iV (((k : Nat) : Int)))] [(9, [.sl 1 (byteRows o)])]) (by kernel_rfl) ?_
        refine ao_q (d := 18) (c := (0 ≤ (((k : Nat) : Int)) ∧ (((k : Nat) : Int)) < (s.size : Int))) (tv := .one (.c (.v (.int .u8 (byteAt s (((k : Nat) : Int))))))) (st1 := mk 47 [(0, sV s), (3, .one (.so [] 9 0 o.size)), (4, iV (((k : Nat) : Int))), (18, .one (.c (.v (.int .u8 (byteAt s (((k : Nat) : Int)))))))] [(9, [.sl 1 (byteRows o)])]) [0, 3, 4, 18] tyOK (by kernel_rfl) (by first | omega | exact figHi (byteAt_lo _ _) (byteAt_hi _ _) | exact figLo (byteAt_lo _ _) (byteAt_hi _ _)) (by kernel_rfl) ?_
        refine ao_some [3] [] [0, 3, 4, 5] tyOK (st1 := mk 47 [(0, sV s), (3, .one (.so [] 9 0 o.size)), (4, iV (((k : Nat) : Int))), (5, .one (.c (.v (.int .u8 (byteAt s (((k : Nat) : Int)))))))] [(9, [.sl 1 (byteRows o)])]) (by kernel_rfl) ?_
        refine ao_nil ?_
        refine a_seq ?_
        refine a_mid (mk 47 [(0, sV s), (3, .one (.so [] 9 0 o.size)), (4, iV (((k : Nat) : Int))), (5, .one (.c (.v (.int .u8 (byteAt s (((k : Nat) : Int))))))), (29, bV (bif (within (IntKind.wrap .i64 (byteAt s (((k : Nat) : Int)))) 33 126) then (bif (((byteAt s (((k : Nat) : Int))) != 34)) then (((byteAt s (((k : Nat) : Int))) != 37)) else false) else false))] [(9, [.sl 1 (byteRows o)])]) ?_ ?_
        · refine a_ops [0, 1, 2, 3, 4, 5, 6, 7, 8, 9, 10] (by kernel_rfl) ?_
          refine ao_some [0, 1] [2, 3, 4, 5, 6, 7, 8, 9, 10] [0, 3, 4, 5, 20] tyOK (st1 := mk 47 [(0, sV s), (3, .one (.so [] 9 0 o.size)), (4, iV (((k : Nat) : Int))), (5, .one (.c (.v (.int .u8 (byteAt s (((k : Nat) : Int))))))), (20, iV (IntKind.wrap .i64 (byteAt s (((k : Nat) : Int)))))] [(9, [.sl 1 (byteRows o)])]) (by kernel_rfl) ?_
          refine ao_enter (f := 98) (d := 21) (A := [iV (IntKind.wrap .i64 (byteAt s (((k : Nat) : Int)))), iV 33, iV 126]) (st1 := mk 47 [(0, sV s), (3, .one (.so [] 9 0 o.size)), (4, iV (((k : Nat) : Int))), (5, .one (.c (.v (.int .u8 (byteAt s (((k : Nat) : Int))))))), (21, bV (within (IntKind.wrap .i64 (byteAt s (((k : Nat) : Int)))) 33 126))] [(9, [.sl 1 (byteRows o)])]) [0, 3, 4, 5, 21] (okwithin (IntKind.wrap .i64 (byteAt s (((k : Nat) : Int)))) 33 126) Try.call98 (by kernel_rfl) (by kernel_rfl) (by kernel_rfl) ?_
          refine ao_some [3] [4, 5, 6, 7, 8, 9, 10] [0, 3, 4, 5, 22] tyOK (st1 := mk 47 [(0, sV s), (3, .one (.so [] 9 0 o.size)), (4, iV (((k : Nat) : Int))), (5, .one (.c (.v (.int .u8 (byteAt s (((k : Nat) : Int))))))), (22, bV (within (IntKind.wrap .i64 (byteAt s (((k : Nat) : Int)))) 33 126))] [(9, [.sl 1 (byteRows o)])]) (by kernel_rfl) ?_
          rcases Bool.eq_false_or_eq_true (within (IntKind.wrap .i64 (byteAt s (((k : Nat) : Int)))) 33 126) with h3 | h3
          · rw [h3]
            have g3 := h3
            refine ao_some [4, 5, 6, 7] [8, 9, 10] [0, 3, 4, 5, 26] tyOK (st1 := mk 47 [(0, sV s), (3, .one (.so [] 9 0 o.size)), (4, iV (((k : Nat) : Int))), (5, .one (.c (.v (.int .u8 (byteAt s (((k : Nat) : Int))))))), (26, bV (((byteAt s (((k : Nat) : Int))) != 34)))] [(9, [.sl 1 (byteRows o)])]) (by kernel_rfl) ?_
            rcases Bool.eq_false_or_eq_true (((byteAt s (((k : Nat) : Int))) != 34)) with h4 | h4
            · rw [h4]
              have g4 := h4
              try simp only [bne_iff_ne, bne_eq_false_iff_eq, ne_eq] at g4
              refine ao_some [8, 9, 10] [] [0, 3, 4, 5, 29] tyOK (st1 := mk 47 [(0, sV s), (3, .one (.so [] 9 0 o.size)), (4, iV (((k : Nat) : Int))), (5, .one (.c (.v (.int .u8 (byteAt s (((k : Nat) : Int))))))), (29, bV (((byteAt s (((k : Nat) : Int))) != 37)))] [(9, [.sl 1 (byteRows o)])]) (by kernel_rfl) ?_
              exact ao_nil (by show _ = _; kernel_rfl)
            · rw [h4]
              have g4 := h4
              try simp only [bne_iff_ne, bne_eq_false_iff_eq, ne_eq] at g4
              refine ao_some [8, 9, 10] [] [0, 3, 4, 5, 29] tyOK (st1 := mk 47 [(0, sV s), (3, .one (.so [] 9 0 o.size)), (4, iV (((k : Nat) : Int))), (5, .one (.c (.v (.int .u8 (byteAt s (((k : Nat) : Int))))))), (29, bV false)] [(9, [.sl 1 (byteRows o)])]) (by kernel_rfl) ?_
              exact ao_nil (by show _ = _; kernel_rfl)
          · rw [h3]
            have g3 := h3
            refine ao_some [4, 5, 6, 7, 8, 9, 10] [] [0, 3, 4, 5, 29] tyOK (st1 := mk 47 [(0, sV s), (3, .one (.so [] 9 0 o.size)), (4, iV (((k : Nat) : Int))), (5, .one (.c (.v (.int .u8 (byteAt s (((k : Nat) : Int))))))), (29, bV false)] [(9, [.sl 1 (byteRows o)])]) (by kernel_rfl) ?_
            exact ao_nil (by show _ = _; kernel_rfl)
        refine a_cond (b := bif (within (IntKind.wrap .i64 (byteAt s (((k : Nat) : Int)))) 33 126) then (bif (((byteAt s (((k : Nat) : Int))) != 34)) then (((byteAt s (((k : Nat) : Int))) != 37)) else false) else false) (by kernel_rfl) (fun h5 => ?_) (fun h5 => ?_)
        · have g5 := h5
          try simp only [bne_iff_ne, bne_eq_false_iff_eq, ne_eq] at g5
          refine a_ops [0, 1, 2, 3, 4] (by kernel_rfl) ?_
          refine ao_some [0, 1, 2] [3, 4] [0, 4, 30, 32] tyOK (st1 := mk 47 [(0, sV s), (4, iV (((k : Nat) : Int))), (30, .one (.so [] 9 0 o.size)), (32, .one (.so [] 32 0 1))] [(9, [.sl 1 (byteRows o)]), (32, [.sl 1 ([[.v (.int .u8 (byteAt s (((k : Nat) : Int))))]])])]) (by kernel_rfl) ?_
          refine ao_append (d := 33) (n := o.size) (n' := ((o ++ byteB (byteAt s ((k : Nat) : Int))).size)) (bytes := 1) (size := 1) (src := (some ([], 9, 0))) (rows := byteRows o) (new := [[.v (.int .u8 (byteAt s (((k : Nat) : Int))))]]) (rows' := byteRows (o ++ byteB (byteAt s ((k : Nat) : Int)))) (st1 := mk 47 [(0, sV s), (4, iV (((k : Nat) : Int))), (33, .one (.so [] 33 0 ((o ++ byteB (byteAt s ((k : Nat) : Int))).size)))] [(33, [.sl 1 (byteRows (o ++ byteB (byteAt s ((k : Nat) : Int))))])]) [0, 4, 33] tyOK (by kernel_rfl) (byteRows_length _) (by rw [byteRows_length]; simp only [List.length_cons, List.length_nil]; omega) (by kernel_rfl) (by exact rows1 (byteAt_lo _ _) (byteAt_hi _ _)) (by rw [byteRows_length, ByteArray.size_append]; rfl) (by kernel_rfl) ?_
          refine ao_some [4] [] [0, 3, 4] tyOK (st1 := mk 47 [(0, sV s), (3, .one (.so [] 33 0 ((o ++ byteB (byteAt s ((k : Nat) : Int))).size))), (4, iV (((k : Nat) : Int)))] [(33, [.sl 1 (byteRows (o ++ byteB (byteAt s ((k : Nat) : Int))))])]) (by kernel_rfl) ?_
          refine ao_nil ?_
          refine a_rename 33 9 3 [0, 3, 4] (st1 := mk 47 [(0, sV s), (3, .one (.so [] 9 0 ((o ++ byteB (byteAt s ((k : Nat) : Int))).size))), (4, iV (((k : Nat) : Int)))] [(9, [.sl 1 (byteRows (o ++ byteB (byteAt s ((k : Nat) : Int))))])]) (by kernel_rfl) ?_
          refine a_run [0, 3, 4] tyOK (st1 := mk 47 [(0, sV s), (3, .one (.so [] 9 0 ((o ++ byteB (byteAt s ((k : Nat) : Int))).size))), (4, iV (IntKind.wrap .i64 ((((k : Nat) : Int)) + 1)))] [(9, [.sl 1 (byteRows (o ++ byteB (byteAt s ((k : Nat) : Int))))])]) (by kernel_rfl) ?_
          refine ⟨⟨(k + 1), (o ++ byteB (byteAt s ((k : Nat) : Int))), ?_⟩, ?_, ?_⟩
          · exact ⟨by omega, hs, by rw [ByteArray.size_append, byteB_size]; omega, by rw [← hR, drop_bytes (k := k) (by omega), quoteL, ← quoteI_eq (byteAt_lo _ _) (byteAt_hi _ _), quoteI, show plainI _ = true from h5, cond_true]⟩
          · exact (show _ = mk 47 [(0, sV s), (3, .one (.so [] 9 0 ((o ++ byteB (byteAt s ((k : Nat) : Int))).size))), (4, iV (IntKind.wrap .i64 ((((k : Nat) : Int)) + 1)))] [(9, [.sl 1 (byteRows (o ++ byteB (byteAt s ((k : Nat) : Int))))])] by kernel_rfl).trans (by rw [mv_wrap (n := (k : Int) + 1) (by omega) (by omega)]; rfl)
          · dsimp only; omega
        · have g5 := h5
          try simp only [bne_iff_ne, bne_eq_false_iff_eq, ne_eq] at g5
          refine a_mid (mk 47 [(0, sV s), (3, .one (.so [] 42 0 ((o ++ q3 (byteAt (⟨#[48, 49, 50, 51, 52, 53, 54, 55, 56, 57, 65, 66, 67, 68, 69, 70]⟩ : ByteArray) (Int.fdiv (byteAt s ((k : Nat) : Int)) 16)) (byteAt (⟨#[48, 49, 50, 51, 52, 53, 54, 55, 56, 57, 65, 66, 67, 68, 69, 70]⟩ : ByteArray) (IntKind.wrap .u8 (((BitVec.ofInt 8 (byteAt s ((k : Nat) : Int)) &&& BitVec.ofInt 8 15).toNat : Nat) : Int)))).size))), (4, iV (((k : Nat) : Int)))] [(42, [.sl 1 (byteRows (o ++ q3 (byteAt (⟨#[48, 49, 50, 51, 52, 53, 54, 55, 56, 57, 65, 66, 67, 68, 69, 70]⟩ : ByteArray) (Int.fdiv (byteAt s ((k : Nat) : Int)) 16)) (byteAt (⟨#[48, 49, 50, 51, 52, 53, 54, 55, 56, 57, 65, 66, 67, 68, 69, 70]⟩ : ByteArray) (IntKind.wrap .u8 (((BitVec.ofInt 8 (byteAt s ((k : Nat) : Int)) &&& BitVec.ofInt 8 15).toNat : Nat) : Int)))))])]) ?_ ?_
          · refine a_drawn (n := 10) [8] (by kernel_rfl) (by kernel_rfl) ?_
            refine aa_take (fuel := 5) (listed' := #[true, true, true, false, true, true, false, false, false, false]) (st' := mk 47 [(0, sV s), (4, iV (((k : Nat) : Int))), (34, .one (.so [] 9 0 o.size)), (36, .one (.c (.v (.int .u8 (Int.fdiv (byteAt s (((k : Nat) : Int))) 16))))), (39, .one (.c (.v (.int .u8 (IntKind.wrap .u8 (((BitVec.ofInt 8 (byteAt s (((k : Nat) : Int))) &&& BitVec.ofInt 8 15).toNat : Nat) : Int))))))] [(9, [.sl 1 (byteRows o)])]) [0, 1, 2, 4, 5] [0, 4, 34, 36, 39] tyOK (by kernel_rfl) (by kernel_rfl) (by kernel_rfl) ?_
            refine aa_q (i := 3) (d := 37) (c := (0 ≤ (Int.fdiv (byteAt s (((k : Nat) : Int))) 16) ∧ (Int.fdiv (byteAt s (((k : Nat) : Int))) 16) < (((⟨#[48, 49, 50, 51, 52, 53, 54, 55, 56, 57, 65, 66, 67, 68, 69, 70]⟩ : ByteArray)).size : Int))) (tv := .one (.c (.v (.int .u8 (byteAt ((⟨#[48, 49, 50, 51, 52, 53, 54, 55, 56, 57, 65, 66, 67, 68, 69, 70]⟩ : ByteArray)) (Int.fdiv (byteAt s (((k : Nat) : Int))) 16)))))) (listed' := #[true, true, true, true, true, true, false, false, false, false]) (st1 := mk 47 [(0, sV s), (4, iV (((k : Nat) : Int))), (34, .one (.so [] 9 0 o.size)), (37, .one (.c (.v (.int .u8 (byteAt ((⟨#[48, 49, 50, 51, 52, 53, 54, 55, 56, 57, 65, 66, 67, 68, 69, 70]⟩ : ByteArray)) (Int.fdiv (byteAt s (((k : Nat) : Int))) 16)))))), (39, .one (.c (.v (.int .u8 (IntKind.wrap .u8 (((BitVec.ofInt 8 (byteAt s (((k : Nat) : Int))) &&& BitVec.ofInt 8 15).toNat : Nat) : Int))))))] [(9, [.sl 1 (byteRows o)])]) [0, 4, 34, 37, 39] tyOK (by kernel_rfl) (by kernel_rfl) (by first | omega | exact figHi (byteAt_lo _ _) (byteAt_hi _ _) | exact figLo (byteAt_lo _ _) (byteAt_hi _ _)) (by kernel_rfl) (by kernel_rfl) (by kernel_rfl) ?_
            refine aa_q (i := 6) (d := 40) (c := (0 ≤ (IntKind.wrap .u8 (((BitVec.ofInt 8 (byteAt s (((k : Nat) : Int))) &&& BitVec.ofInt 8 15).toNat : Nat) : Int)) ∧ (IntKind.wrap .u8 (((BitVec.ofInt 8 (byteAt s (((k : Nat) : Int))) &&& BitVec.ofInt 8 15).toNat : Nat) : Int)) < (((⟨#[48, 49, 50, 51, 52, 53, 54, 55, 56, 57, 65, 66, 67, 68, 69, 70]⟩ : ByteArray)).size : Int))) (tv := .one (.c (.v (.int .u8 (byteAt ((⟨#[48, 49, 50, 51, 52, 53, 54, 55, 56, 57, 65, 66, 67, 68, 69, 70]⟩ : ByteArray)) (IntKind.wrap .u8 (((BitVec.ofInt 8 (byteAt s (((k : Nat) : Int))) &&& BitVec.ofInt 8 15).toNat : Nat) : Int))))))) (listed' := #[true, true, true, true, true, true, true, false, false, false]) (st1 := mk 47 [(0, sV s), (4, iV (((k : Nat) : Int))), (34, .one (.so [] 9 0 o.size)), (37, .one (.c (.v (.int .u8 (byteAt ((⟨#[48, 49, 50, 51, 52, 53, 54, 55, 56, 57, 65, 66, 67, 68, 69, 70]⟩ : ByteArray)) (Int.fdiv (byteAt s (((k : Nat) : Int))) 16)))))), (40, .one (.c (.v (.int .u8 (byteAt ((⟨#[48, 49, 50, 51, 52, 53, 54, 55, 56, 57, 65, 66, 67, 68, 69, 70]⟩ : ByteArray)) (IntKind.wrap .u8 (((BitVec.ofInt 8 (byteAt s (((k : Nat) : Int))) &&& BitVec.ofInt 8 15).toNat : Nat) : Int)))))))] [(9, [.sl 1 (byteRows o)])]) [0, 4, 34, 37, 40] tyOK (by kernel_rfl) (by kernel_rfl) (by first | omega | exact figHi (byteAt_lo _ _) (byteAt_hi _ _) | exact figLo (byteAt_lo _ _) (byteAt_hi _ _)) (by kernel_rfl) (by kernel_rfl) (by kernel_rfl) ?_
            refine aa_all [7] (by kernel_rfl) rfl ?_
            refine aa_cons ?_ aa_nil
            refine aone_any (listed' := #[true, true, true, true, true, true, true, true, false, false]) (st1 := mk 47 [(0, sV s), (4, iV (((k : Nat) : Int))), (34, .one (.so [] 9 0 o.size)), (41, .one (.so [] 41 0 3))] [(9, [.sl 1 (byteRows o)]), (41, [.sl 1 ([[.v (.int .u8 37)], [.v (.int .u8 (byteAt ((⟨#[48, 49, 50, 51, 52, 53, 54, 55, 56, 57, 65, 66, 67, 68, 69, 70]⟩ : ByteArray)) (Int.fdiv (byteAt s (((k : Nat) : Int))) 16)))], [.v (.int .u8 (byteAt ((⟨#[48, 49, 50, 51, 52, 53, 54, 55, 56, 57, 65, 66, 67, 68, 69, 70]⟩ : ByteArray)) (IntKind.wrap .u8 (((BitVec.ofInt 8 (byteAt s (((k : Nat) : Int))) &&& BitVec.ofInt 8 15).toNat : Nat) : Int))))]])])]) [0, 4, 34, 41] tyOK (by kernel_rfl) (by kernel_rfl) ?_
            refine aa_all [8] (by kernel_rfl) rfl ?_
            refine aa_cons ?_ aa_nil
            refine aone_append (listed' := #[true, true, true, true, true, true, true, true, true, false]) (d := 42) (n := o.size) (n' := ((o ++ q3 (byteAt (⟨#[48, 49, 50, 51, 52, 53, 54, 55, 56, 57, 65, 66, 67, 68, 69, 70]⟩ : ByteArray) (Int.fdiv (byteAt s ((k : Nat) : Int)) 16)) (byteAt (⟨#[48, 49, 50, 51, 52, 53, 54, 55, 56, 57, 65, 66, 67, 68, 69, 70]⟩ : ByteArray) (IntKind.wrap .u8 (((BitVec.ofInt 8 (byteAt s ((k : Nat) : Int)) &&& BitVec.ofInt 8 15).toNat : Nat) : Int)))).size)) (bytes := 1) (size := 1) (src := (some ([], 9, 0))) (rows := byteRows o) (new := [[.v (.int .u8 37)], [.v (.int .u8 (byteAt ((⟨#[48, 49, 50, 51, 52, 53, 54, 55, 56, 57, 65, 66, 67, 68, 69, 70]⟩ : ByteArray)) (Int.fdiv (byteAt s (((k : Nat) : Int))) 16)))], [.v (.int .u8 (byteAt ((⟨#[48, 49, 50, 51, 52, 53, 54, 55, 56, 57, 65, 66, 67, 68, 69, 70]⟩ : ByteArray)) (IntKind.wrap .u8 (((BitVec.ofInt 8 (byteAt s (((k : Nat) : Int))) &&& BitVec.ofInt 8 15).toNat : Nat) : Int))))]]) (rows' := byteRows (o ++ q3 (byteAt (⟨#[48, 49, 50, 51, 52, 53, 54, 55, 56, 57, 65, 66, 67, 68, 69, 70]⟩ : ByteArray) (Int.fdiv (byteAt s ((k : Nat) : Int)) 16)) (byteAt (⟨#[48, 49, 50, 51, 52, 53, 54, 55, 56, 57, 65, 66, 67, 68, 69, 70]⟩ : ByteArray) (IntKind.wrap .u8 (((BitVec.ofInt 8 (byteAt s ((k : Nat) : Int)) &&& BitVec.ofInt 8 15).toNat : Nat) : Int))))) (st1 := mk 47 [(0, sV s), (4, iV (((k : Nat) : Int))), (42, .one (.so [] 42 0 ((o ++ q3 (byteAt (⟨#[48, 49, 50, 51, 52, 53, 54, 55, 56, 57, 65, 66, 67, 68, 69, 70]⟩ : ByteArray) (Int.fdiv (byteAt s ((k : Nat) : Int)) 16)) (byteAt (⟨#[48, 49, 50, 51, 52, 53, 54, 55, 56, 57, 65, 66, 67, 68, 69, 70]⟩ : ByteArray) (IntKind.wrap .u8 (((BitVec.ofInt 8 (byteAt s ((k : Nat) : Int)) &&& BitVec.ofInt 8 15).toNat : Nat) : Int)))).size)))] [(42, [.sl 1 (byteRows (o ++ q3 (byteAt (⟨#[48, 49, 50, 51, 52, 53, 54, 55, 56, 57, 65, 66, 67, 68, 69, 70]⟩ : ByteArray) (Int.fdiv (byteAt s ((k : Nat) : Int)) 16)) (byteAt (⟨#[48, 49, 50, 51, 52, 53, 54, 55, 56, 57, 65, 66, 67, 68, 69, 70]⟩ : ByteArray) (IntKind.wrap .u8 (((BitVec.ofInt 8 (byteAt s ((k : Nat) : Int)) &&& BitVec.ofInt 8 15).toNat : Nat) : Int)))))])]) [0, 4, 42] tyOK (by kernel_rfl) (byteRows_length _) (by rw [byteRows_length]; simp only [List.length_cons, List.length_nil]; omega) (by kernel_rfl) (by exact rows3 (by first | exact byteAt_lo _ _ | exact digS_lo _) (by first | exact byteAt_hi _ _ | exact digS_hi _) (by first | exact byteAt_lo _ _ | exact digS_lo _) (by first | exact byteAt_hi _ _ | exact digS_hi _)) (by rw [byteRows_length, ByteArray.size_append]; rfl) (by kernel_rfl) (by kernel_rfl) (by kernel_rfl) ?_
            refine aa_take (fuel := 0) (listed' := #[true, true, true, true, true, true, true, true, true, true]) (st' := mk 47 [(0, sV s), (3, .one (.so [] 42 0 ((o ++ q3 (byteAt (⟨#[48, 49, 50, 51, 52, 53, 54, 55, 56, 57, 65, 66, 67, 68, 69, 70]⟩ : ByteArray) (Int.fdiv (byteAt s ((k : Nat) : Int)) 16)) (byteAt (⟨#[48, 49, 50, 51, 52, 53, 54, 55, 56, 57, 65, 66, 67, 68, 69, 70]⟩ : ByteArray) (IntKind.wrap .u8 (((BitVec.ofInt 8 (byteAt s ((k : Nat) : Int)) &&& BitVec.ofInt 8 15).toNat : Nat) : Int)))).size))), (4, iV (((k : Nat) : Int)))] [(42, [.sl 1 (byteRows (o ++ q3 (byteAt (⟨#[48, 49, 50, 51, 52, 53, 54, 55, 56, 57, 65, 66, 67, 68, 69, 70]⟩ : ByteArray) (Int.fdiv (byteAt s ((k : Nat) : Int)) 16)) (byteAt (⟨#[48, 49, 50, 51, 52, 53, 54, 55, 56, 57, 65, 66, 67, 68, 69, 70]⟩ : ByteArray) (IntKind.wrap .u8 (((BitVec.ofInt 8 (byteAt s ((k : Nat) : Int)) &&& BitVec.ofInt 8 15).toNat : Nat) : Int)))))])]) [9] [0, 3, 4] tyOK (by kernel_rfl) (by kernel_rfl) (by kernel_rfl) ?_
            refine aa_done (by kernel_rfl) ?_
            show _ = _; kernel_rfl
          refine a_rename 42 9 3 [0, 3, 4] (st1 := mk 47 [(0, sV s), (3, .one (.so [] 9 0 ((o ++ q3 (byteAt (⟨#[48, 49, 50, 51, 52, 53, 54, 55, 56, 57, 65, 66, 67, 68, 69, 70]⟩ : ByteArray) (Int.fdiv (byteAt s ((k : Nat) : Int)) 16)) (byteAt (⟨#[48, 49, 50, 51, 52, 53, 54, 55, 56, 57, 65, 66, 67, 68, 69, 70]⟩ : ByteArray) (IntKind.wrap .u8 (((BitVec.ofInt 8 (byteAt s ((k : Nat) : Int)) &&& BitVec.ofInt 8 15).toNat : Nat) : Int)))).size))), (4, iV (((k : Nat) : Int)))] [(9, [.sl 1 (byteRows (o ++ q3 (byteAt (⟨#[48, 49, 50, 51, 52, 53, 54, 55, 56, 57, 65, 66, 67, 68, 69, 70]⟩ : ByteArray) (Int.fdiv (byteAt s ((k : Nat) : Int)) 16)) (byteAt (⟨#[48, 49, 50, 51, 52, 53, 54, 55, 56, 57, 65, 66, 67, 68, 69, 70]⟩ : ByteArray) (IntKind.wrap .u8 (((BitVec.ofInt 8 (byteAt s ((k : Nat) : Int)) &&& BitVec.ofInt 8 15).toNat : Nat) : Int)))))])]) (by kernel_rfl) ?_
          refine a_run [0, 3, 4] tyOK (st1 := mk 47 [(0, sV s), (3, .one (.so [] 9 0 ((o ++ q3 (byteAt (⟨#[48, 49, 50, 51, 52, 53, 54, 55, 56, 57, 65, 66, 67, 68, 69, 70]⟩ : ByteArray) (Int.fdiv (byteAt s ((k : Nat) : Int)) 16)) (byteAt (⟨#[48, 49, 50, 51, 52, 53, 54, 55, 56, 57, 65, 66, 67, 68, 69, 70]⟩ : ByteArray) (IntKind.wrap .u8 (((BitVec.ofInt 8 (byteAt s ((k : Nat) : Int)) &&& BitVec.ofInt 8 15).toNat : Nat) : Int)))).size))), (4, iV (IntKind.wrap .i64 ((((k : Nat) : Int)) + 1)))] [(9, [.sl 1 (byteRows (o ++ q3 (byteAt (⟨#[48, 49, 50, 51, 52, 53, 54, 55, 56, 57, 65, 66, 67, 68, 69, 70]⟩ : ByteArray) (Int.fdiv (byteAt s ((k : Nat) : Int)) 16)) (byteAt (⟨#[48, 49, 50, 51, 52, 53, 54, 55, 56, 57, 65, 66, 67, 68, 69, 70]⟩ : ByteArray) (IntKind.wrap .u8 (((BitVec.ofInt 8 (byteAt s ((k : Nat) : Int)) &&& BitVec.ofInt 8 15).toNat : Nat) : Int)))))])]) (by kernel_rfl) ?_
          refine ⟨⟨(k + 1), (o ++ q3 (byteAt (⟨#[48, 49, 50, 51, 52, 53, 54, 55, 56, 57, 65, 66, 67, 68, 69, 70]⟩ : ByteArray) (Int.fdiv (byteAt s ((k : Nat) : Int)) 16)) (byteAt (⟨#[48, 49, 50, 51, 52, 53, 54, 55, 56, 57, 65, 66, 67, 68, 69, 70]⟩ : ByteArray) (IntKind.wrap .u8 (((BitVec.ofInt 8 (byteAt s ((k : Nat) : Int)) &&& BitVec.ofInt 8 15).toNat : Nat) : Int)))), ?_⟩, ?_, ?_⟩
          · exact ⟨by omega, hs, by rw [ByteArray.size_append, q3_size]; omega, by rw [← hR, drop_bytes (k := k) (by omega), quoteL, ← quoteI_eq (byteAt_lo _ _) (byteAt_hi _ _), quoteI, show plainI _ = false from h5, cond_false]; rfl⟩
          · exact (show _ = mk 47 [(0, sV s), (3, .one (.so [] 9 0 ((o ++ q3 (byteAt (⟨#[48, 49, 50, 51, 52, 53, 54, 55, 56, 57, 65, 66, 67, 68, 69, 70]⟩ : ByteArray) (Int.fdiv (byteAt s ((k : Nat) : Int)) 16)) (byteAt (⟨#[48, 49, 50, 51, 52, 53, 54, 55, 56, 57, 65, 66, 67, 68, 69, 70]⟩ : ByteArray) (IntKind.wrap .u8 (((BitVec.ofInt 8 (byteAt s ((k : Nat) : Int)) &&& BitVec.ofInt 8 15).toNat : Nat) : Int)))).size))), (4, iV (IntKind.wrap .i64 ((((k : Nat) : Int)) + 1)))] [(9, [.sl 1 (byteRows (o ++ q3 (byteAt (⟨#[48, 49, 50, 51, 52, 53, 54, 55, 56, 57, 65, 66, 67, 68, 69, 70]⟩ : ByteArray) (Int.fdiv (byteAt s ((k : Nat) : Int)) 16)) (byteAt (⟨#[48, 49, 50, 51, 52, 53, 54, 55, 56, 57, 65, 66, 67, 68, 69, 70]⟩ : ByteArray) (IntKind.wrap .u8 (((BitVec.ofInt 8 (byteAt s ((k : Nat) : Int)) &&& BitVec.ofInt 8 15).toNat : Nat) : Int)))))])] by kernel_rfl).trans (by rw [mv_wrap (n := (k : Int) + 1) (by omega) (by omega)]; rfl)
          · dsimp only; omega
      · have g2 := h2
        try simp only [decide_eq_true_eq, decide_eq_false_iff_not] at g2
        refine a_exit ?_
        refine a_seq ?_
        refine a_ops [0, 1, 2, 3, 4] (by kernel_rfl) ?_
        refine ao_some [0, 1] [2, 3, 4] [43, 44] tyOK (st1 := mk 47 [(43, .one (.so [] 9 0 o.size)), (44, .one (.so [] 44 0 1))] [(9, [.sl 1 (byteRows o)]), (44, [.sl 1 ([[.v (.int .u8 34)]])])]) (by kernel_rfl) ?_
        refine ao_append (d := 45) (n := o.size) (n' := ((o ++ byteB 34).size)) (bytes := 1) (size := 1) (src := (some ([], 9, 0))) (rows := byteRows o) (new := [[.v (.int .u8 34)]]) (rows' := byteRows (o ++ byteB 34)) (st1 := mk 47 [(45, .one (.so [] 45 0 ((o ++ byteB 34).size)))] [(45, [.sl 1 (byteRows (o ++ byteB 34))])]) [45] tyOK (by kernel_rfl) (byteRows_length _) (by rw [byteRows_length]; simp only [List.length_cons, List.length_nil]; omega) (by kernel_rfl) (by exact rows1 (by decide) (by decide)) (by rw [byteRows_length, ByteArray.size_append]; rfl) (by kernel_rfl) ?_
        refine ao_string (d := 46) (n := ((o ++ byteB 34).size)) (rows := byteRows (o ++ byteB 34)) (s := (o ++ byteB 34)) (st1 := mk 47 [(46, sV (o ++ byteB 34))] []) [46] tyOK (by kernel_rfl) (byteRows_length _) rfl (by kernel_rfl) ?_
        refine ao_some [4] [] [2] tyOK (st1 := mk 47 [(2, sV (o ++ byteB 34))] []) (by kernel_rfl) ?_
        refine ao_nil ?_
        refine a_ret ?_
        have e : quote s = o ++ byteB 34 := by
            rw [quote, h1, cond_false, ← hR, List.drop_eq_nil_of_le (by rw [bytesOf_length]; omega), quoteL]
        exact end_eq (res' := sV (o ++ byteB 34)) (by kernel_rfl) (by rw [e])



def orDashI (s : ByteArray) : ByteArray := bif ((s.toList == ((⟨#[]⟩ : ByteArray)).toList)) then ((⟨#[45]⟩ : ByteArray)) else s
/-- impl.orDash -/
theorem ok52 (s : ByteArray) : CallOK Try.prog 52 [sV s] (sV (orDashI s)) [] :=
  callOK tyOK Try.func52 rfl fun w S hS => by
    refine a_seq ?_
    refine a_run [0] tyOK (st1 := mk 6 [(0, sV s)] []) (by kernel_rfl) ?_
    refine a_seq ?_
    refine a_seq ?_
    refine a_run [0, 4] tyOK (st1 := mk 6 [(0, sV s), (4, bV ((s.toList == ((⟨#[]⟩ : ByteArray)).toList)))] []) (by kernel_rfl) ?_
    refine a_cond (b := (s.toList == ((⟨#[]⟩ : ByteArray)).toList)) (by kernel_rfl) (fun h1 => ?_) (fun h1 => ?_)
    · have g1 := h1
      try simp only [beq_iff_eq, beq_eq_false_iff_ne] at g1
      refine a_seq ?_
      refine a_run [2] tyOK (st1 := mk 6 [(2, sV ((⟨#[45]⟩ : ByteArray)))] []) (by kernel_rfl) ?_
      refine a_ret ?_
      have e : orDashI s = (⟨#[45]⟩ : ByteArray) := by rw [orDashI]; rw [h1, cond_true]
      exact end_eq (res' := sV ((⟨#[45]⟩ : ByteArray))) (by kernel_rfl) (by rw [e])
    · have g1 := h1
      try simp only [beq_iff_eq, beq_eq_false_iff_ne] at g1
      refine a_skip ?_
      refine a_seq ?_
      refine a_run [2] tyOK (st1 := mk 6 [(2, sV s)] []) (by kernel_rfl) ?_
      refine a_ret ?_
      have e : orDashI s = s := by rw [orDashI]; rw [h1, cond_false]
      exact end_eq (res' := sV s) (by kernel_rfl) (by rw [e])



def pairTextI (x : Pair) : ByteArray := ((quote x.k) ++ ((⟨#[61]⟩ : ByteArray))) ++ (quote x.v)
/-- impl.pairText -/
theorem ok55 (x : Pair) : CallOK Try.prog 55 [.agg [.c (sC x.k), .c (sC x.v)]] (sV (pairTextI x)) [] :=
  callOK tyOK Try.func55 rfl fun w S hS => by
    refine a_seq ?_
    refine a_run [1] tyOK (st1 := mk 11 [(1, .one (.pl [(1, 0)] 0 0))] [(1, [.bx [sC x.k, sC x.v]])]) (by kernel_rfl) ?_
    refine a_seq ?_
    refine a_mid (mk 11 [(2, sV (((quote x.k) ++ ((⟨#[61]⟩ : ByteArray))) ++ (quote x.v)))] []) ?_ ?_
    · refine a_drawn (n := 9) [] (by kernel_rfl) (by kernel_rfl) ?_
      refine aa_take (fuel := 5) (listed' := #[true, true, false, false, true, true, false, false, false]) (st' := mk 11 [(4, sV x.k), (8, sV x.v)] []) [0, 1, 4, 5] [4, 8] tyOK (by kernel_rfl) (by kernel_rfl) (by kernel_rfl) ?_
      refine aa_all [2] (by kernel_rfl) rfl ?_
      refine aa_cons ?_ aa_nil
      refine aone_enter (listed' := #[true, true, true, false, true, true, false, false, false]) (f := 87) (d := 5) (A := [sV x.k]) (st1 := mk 11 [(5, sV (quote x.k)), (8, sV x.v)] []) [5, 8] (okQuoteI x.k) Try.call87 (by kernel_rfl) (by kernel_rfl) (by kernel_rfl) (by kernel_rfl) ?_
      refine aa_q (i := 3) (d := 6) (c := ((quote x.k).size + ((⟨#[61]⟩ : ByteArray)).size ≤ 140737488355328)) (tv := sV ((quote x.k) ++ ((⟨#[61]⟩ : ByteArray)))) (listed' := #[true, true, true, true, true, true, false, false, false]) (st1 := mk 11 [(6, sV ((quote x.k) ++ ((⟨#[61]⟩ : ByteArray)))), (8, sV x.v)] []) [6, 8] tyOK (by kernel_rfl) (by kernel_rfl) (by have h1 := quote_size x.k; have h2 := quote_size x.v; simp only [ByteArray.size_append, mv_size_mk, List.size_toArray, List.length_cons, List.length_nil]; omega) (by kernel_rfl) (by kernel_rfl) (by kernel_rfl) ?_
      refine aa_all [6] (by kernel_rfl) rfl ?_
      refine aa_cons ?_ aa_nil
      refine aone_enter (listed' := #[true, true, true, true, true, true, true, false, false]) (f := 87) (d := 9) (A := [sV x.v]) (st1 := mk 11 [(6, sV ((quote x.k) ++ ((⟨#[61]⟩ : ByteArray)))), (9, sV (quote x.v))] []) [6, 9] (okQuoteI x.v) Try.call87 (by kernel_rfl) (by kernel_rfl) (by kernel_rfl) (by kernel_rfl) ?_
      refine aa_q (i := 7) (d := 10) (c := (((quote x.k) ++ ((⟨#[61]⟩ : ByteArray))).size + (quote x.v).size ≤ 140737488355328)) (tv := sV (((quote x.k) ++ ((⟨#[61]⟩ : ByteArray))) ++ (quote x.v))) (listed' := #[true, true, true, true, true, true, true, true, false]) (st1 := mk 11 [(10, sV (((quote x.k) ++ ((⟨#[61]⟩ : ByteArray))) ++ (quote x.v)))] []) [10] tyOK (by kernel_rfl) (by kernel_rfl) (by have h1 := quote_size x.k; have h2 := quote_size x.v; simp only [ByteArray.size_append, mv_size_mk, List.size_toArray, List.length_cons, List.length_nil]; omega) (by kernel_rfl) (by kernel_rfl) (by kernel_rfl) ?_
      refine aa_take (fuel := 0) (listed' := #[true, true, true, true, true, true, true, true, true]) (st' := mk 11 [(2, sV (((quote x.k) ++ ((⟨#[61]⟩ : ByteArray))) ++ (quote x.v)))] []) [8] [2] tyOK (by kernel_rfl) (by kernel_rfl) (by kernel_rfl) ?_
      refine aa_done (by kernel_rfl) ?_
      show _ = _; kernel_rfl
    refine a_ret ?_
    have e : pairTextI x = ((quote x.k) ++ ((⟨#[61]⟩ : ByteArray))) ++ (quote x.v) := by rw [pairTextI]
    exact end_eq (res' := sV (((quote x.k) ++ ((⟨#[61]⟩ : ByteArray))) ++ (quote x.v))) (by kernel_rfl) (by rw [e])


def wordS (k : Int) : ByteArray := if k = 1 then ⟨#[98, 101, 103, 105, 110]⟩ else if k = 2 then ⟨#[97, 115, 107]⟩ else if k = 3 then ⟨#[99, 111, 109, 109, 105, 116]⟩ else ⟨#[97, 98, 111, 114, 116]⟩
theorem kindB {k : Int} (h : (bif decide (k ≥ 1) then decide (k ≤ 4) else false) = true) : 1 ≤ k ∧ k ≤ 4 := by
  by_cases h1 : k ≥ 1 <;> by_cases h2 : k ≤ 4 <;> simp [h1, h2] at h <;> omega
theorem wordS_row {k : Int} (h : 1 ≤ k ∧ k ≤ 4) : ([[sC (⟨#[]⟩ : ByteArray)], [sC (⟨#[98, 101, 103, 105, 110]⟩ : ByteArray)], [sC (⟨#[97, 115, 107]⟩ : ByteArray)], [sC (⟨#[99, 111, 109, 109, 105, 116]⟩ : ByteArray)], [sC (⟨#[97, 98, 111, 114, 116]⟩ : ByteArray)]] : List (List C))[k.toNat]? = some [sC (wordS k)] := by
  obtain h | h | h | h : k = 1 ∨ k = 2 ∨ k = 3 ∨ k = 4 := by omega
  all_goals subst h; rfl
theorem wordS_size (k : Int) : (wordS k).size ≤ 6 := by
  unfold wordS
  split
  · exact of_decide_eq_true rfl
  split
  · exact of_decide_eq_true rfl
  split <;> exact of_decide_eq_true rfl
def dashT (x : Tx) : ByteArray := bif ((txText x).toList == (⟨#[]⟩ : ByteArray).toList) then ⟨#[45]⟩ else txText x
def kindT (k : Int) : ByteArray := bif (bif decide (k ≥ 1) then decide (k ≤ 4) else false) then wordS k else ⟨#[45]⟩
def headS (p : Reply) : ByteArray := (((dashT p.tx ++ ⟨#[32]⟩) ++ kindT p.kind) ++ ⟨#[32]⟩) ++ numText p.code
theorem dashT_size (x : Tx) : (dashT x).size ≤ 41 := by
  unfold dashT
  cases (txText x).toList == (⟨#[]⟩ : ByteArray).toList
  · exact txText_size x
  · exact of_decide_eq_true rfl
theorem kindT_size (k : Int) : (kindT k).size ≤ 6 := by
  unfold kindT
  cases (bif decide (k ≥ 1) then decide (k ≤ 4) else false)
  · exact of_decide_eq_true rfl
  · exact wordS_size k
theorem headS_size (p : Reply) : (headS p).size ≤ 200 := by
  have h1 := dashT_size p.tx
  have h2 := kindT_size p.kind
  have h3 := numText_size p.code
  simp only [headS, ByteArray.size_append, mv_size_mk, List.size_toArray, List.length_cons, List.length_nil]
  omega
theorem dash_size (x : Tx) : (bif ((txText x).toList == (⟨#[]⟩ : ByteArray).toList) then (⟨#[45]⟩ : ByteArray) else txText x).size ≤ 41 := dashT_size x
theorem kind_size (k : Int) : (bif (bif decide (k ≥ 1) then decide (k ≤ 4) else false) then wordS k else (⟨#[45]⟩ : ByteArray)).size ≤ 6 := kindT_size k
def pairsL : List Pair → ByteArray → ByteArray
  | [], o => o
  | x :: xs, o => pairsL xs ((((o ++ ⟨#[32]⟩) ++ quote x.k) ++ ⟨#[61]⟩) ++ quote x.v)
def replyText (p : Reply) : ByteArray := pairsL p.pairs (headS p)

structure L23_1 (p : Reply) where
  k : Nat
  o : ByteArray
  inv : k ≤ p.pairs.length ∧ o.size ≤ 200 + 25000 * k ∧ pairsL (p.pairs.drop k) o = pairsL p.pairs (headS p)

/-- spec.ReplyText -/
theorem ok23 (p : Reply) (hp : p.pairs.length ≤ 1048576) : CallOK Try.prog 23 [.agg [.c (iC p.kind), .c (iC p.tx.c), .c (iC p.tx.e), .c (iC p.tx.n), .c (iC p.ask.kind), .c (sC p.ask.key), .c (sC p.ask.val), .c (sC p.ask.range.lo), .c (sC p.ask.range.hi), .c (iC p.ask.most), .c (bC p.ask.back), .c (iC p.code), .c (.sl 2 ((p.pairs).map ePair))]] (sV (replyText p)) [] :=
  callOK tyOK Try.func23 rfl fun w S hS => by
    refine a_seq ?_
    refine a_run [1] tyOK (st1 := mk 54 [(1, .one (.pl [(1, 0)] 0 0))] [(1, [.bx [iC p.kind, iC p.tx.c, iC p.tx.e, iC p.tx.n, iC p.ask.kind, sC p.ask.key, sC p.ask.val, sC p.ask.range.lo, sC p.ask.range.hi, iC p.ask.most, bC p.ask.back, iC p.code, .fz (.sl 2 ((p.pairs).map ePair))]])]) (by kernel_rfl) ?_
    refine a_seq ?_
    refine a_ops [0, 1, 2, 3] (by kernel_rfl) ?_
    refine ao_some [0, 1] [2, 3] [1, 8] tyOK (st1 := mk 54 [(1, .one (.pl [(1, 0)] 0 0)), (8, .agg [.c (iC p.tx.c), .c (iC p.tx.e), .c (iC p.tx.n)])] [(1, [.bx [iC p.kind, iC p.tx.c, iC p.tx.e, iC p.tx.n, iC p.ask.kind, sC p.ask.key, sC p.ask.val, sC p.ask.range.lo, sC p.ask.range.hi, iC p.ask.most, bC p.ask.back, iC p.code, .fz (.sl 2 ((p.pairs).map ePair))]])]) (by kernel_rfl) ?_
    refine ao_enter (f := 49) (d := 9) (A := [.agg [.c (iC p.tx.c), .c (iC p.tx.e), .c (iC p.tx.n)]]) (st1 := mk 54 [(1, .one (.pl [(1, 0)] 0 0)), (9, sV (txText p.tx))] [(1, [.bx [iC p.kind, iC p.tx.c, iC p.tx.e, iC p.tx.n, iC p.ask.kind, sC p.ask.key, sC p.ask.val, sC p.ask.range.lo, sC p.ask.range.hi, iC p.ask.most, bC p.ask.back, iC p.code, .fz (.sl 2 ((p.pairs).map ePair))]])]) [1, 9] (okTxTextS p.tx) Try.call49 (by kernel_rfl) (by kernel_rfl) (by kernel_rfl) ?_
    refine ao_some [3] [] [1, 3] tyOK (st1 := mk 54 [(1, .one (.pl [(1, 0)] 0 0)), (3, sV (txText p.tx))] [(1, [.bx [iC p.kind, iC p.tx.c, iC p.tx.e, iC p.tx.n, iC p.ask.kind, sC p.ask.key, sC p.ask.val, sC p.ask.range.lo, sC p.ask.range.hi, iC p.ask.most, bC p.ask.back, iC p.code, .fz (.sl 2 ((p.pairs).map ePair))]])]) (by kernel_rfl) ?_
    refine ao_nil ?_
    refine a_seq ?_
    refine a_seq ?_
    refine a_run [1, 3, 11] tyOK (st1 := mk 54 [(1, .one (.pl [(1, 0)] 0 0)), (3, sV (txText p.tx)), (11, bV (((txText p.tx).toList == ((⟨#[]⟩ : ByteArray)).toList)))] [(1, [.bx [iC p.kind, iC p.tx.c, iC p.tx.e, iC p.tx.n, iC p.ask.kind, sC p.ask.key, sC p.ask.val, sC p.ask.range.lo, sC p.ask.range.hi, iC p.ask.most, bC p.ask.back, iC p.code, .fz (.sl 2 ((p.pairs).map ePair))]])]) (by kernel_rfl) ?_
    refine a_mid (mk 54 [(1, .one (.pl [(1, 0)] 0 0)), (3, sV (bif (((txText p.tx).toList == ((⟨#[]⟩ : ByteArray)).toList)) then ((⟨#[45]⟩ : ByteArray)) else (txText p.tx)))] [(1, [.bx [iC p.kind, iC p.tx.c, iC p.tx.e, iC p.tx.n, iC p.ask.kind, sC p.ask.key, sC p.ask.val, sC p.ask.range.lo, sC p.ask.range.hi, iC p.ask.most, bC p.ask.back, iC p.code, .fz (.sl 2 ((p.pairs).map ePair))]])]) ?_ ?_
    · refine a_cond (b := ((txText p.tx).toList == ((⟨#[]⟩ : ByteArray)).toList)) (by kernel_rfl) (fun h1 => ?_) (fun h1 => ?_)
      · have g1 := h1
        try simp only [beq_iff_eq, beq_eq_false_iff_ne] at g1
        refine a_run [1, 3] tyOK (st1 := mk 54 [(1, .one (.pl [(1, 0)] 0 0)), (3, sV ((⟨#[45]⟩ : ByteArray)))] [(1, [.bx [iC p.kind, iC p.tx.c, iC p.tx.e, iC p.tx.n, iC p.ask.kind, sC p.ask.key, sC p.ask.val, sC p.ask.range.lo, sC p.ask.range.hi, iC p.ask.most, bC p.ask.back, iC p.code, .fz (.sl 2 ((p.pairs).map ePair))]])]) (by kernel_rfl) ?_
        show mk 54 [(1, .one (.pl [(1, 0)] 0 0)), (3, sV ((⟨#[45]⟩ : ByteArray)))] [(1, [.bx [iC p.kind, iC p.tx.c, iC p.tx.e, iC p.tx.n, iC p.ask.kind, sC p.ask.key, sC p.ask.val, sC p.ask.range.lo, sC p.ask.range.hi, iC p.ask.most, bC p.ask.back, iC p.code, .fz (.sl 2 ((p.pairs).map ePair))]])] = mk 54 [(1, .one (.pl [(1, 0)] 0 0)), (3, sV (bif (((txText p.tx).toList == ((⟨#[]⟩ : ByteArray)).toList)) then ((⟨#[45]⟩ : ByteArray)) else (txText p.tx)))] [(1, [.bx [iC p.kind, iC p.tx.c, iC p.tx.e, iC p.tx.n, iC p.ask.kind, sC p.ask.key, sC p.ask.val, sC p.ask.range.lo, sC p.ask.range.hi, iC p.ask.most, bC p.ask.back, iC p.code, .fz (.sl 2 ((p.pairs).map ePair))]])]
        first | rfl | (rw [h1, cond_true]) | (simp only [h1, cond_true, cond_false])
      · have g1 := h1
        try simp only [beq_iff_eq, beq_eq_false_iff_ne] at g1
        refine a_keepTo [1, 3] (st1 := mk 54 [(1, .one (.pl [(1, 0)] 0 0)), (3, sV (txText p.tx))] [(1, [.bx [iC p.kind, iC p.tx.c, iC p.tx.e, iC p.tx.n, iC p.ask.kind, sC p.ask.key, sC p.ask.val, sC p.ask.range.lo, sC p.ask.range.hi, iC p.ask.most, bC p.ask.back, iC p.code, .fz (.sl 2 ((p.pairs).map ePair))]])]) (by kernel_rfl) ?_
        refine a_skip ?_
        show mk 54 [(1, .one (.pl [(1, 0)] 0 0)), (3, sV (txText p.tx))] [(1, [.bx [iC p.kind, iC p.tx.c, iC p.tx.e, iC p.tx.n, iC p.ask.kind, sC p.ask.key, sC p.ask.val, sC p.ask.range.lo, sC p.ask.range.hi, iC p.ask.most, bC p.ask.back, iC p.code, .fz (.sl 2 ((p.pairs).map ePair))]])] = mk 54 [(1, .one (.pl [(1, 0)] 0 0)), (3, sV (bif (((txText p.tx).toList == ((⟨#[]⟩ : ByteArray)).toList)) then ((⟨#[45]⟩ : ByteArray)) else (txText p.tx)))] [(1, [.bx [iC p.kind, iC p.tx.c, iC p.tx.e, iC p.tx.n, iC p.ask.kind, sC p.ask.key, sC p.ask.val, sC p.ask.range.lo, sC p.ask.range.hi, iC p.ask.most, bC p.ask.back, iC p.code, .fz (.sl 2 ((p.pairs).map ePair))]])]
        first | rfl | (rw [h1, cond_false]) | (simp only [h1, cond_true, cond_false])
    refine a_seq ?_
    refine a_run [1, 3, 4] tyOK (st1 := mk 54 [(1, .one (.pl [(1, 0)] 0 0)), (3, sV (bif (((txText p.tx).toList == ((⟨#[]⟩ : ByteArray)).toList)) then ((⟨#[45]⟩ : ByteArray)) else (txText p.tx))), (4, sV ((⟨#[45]⟩ : ByteArray)))] [(1, [.bx [iC p.kind, iC p.tx.c, iC p.tx.e, iC p.tx.n, iC p.ask.kind, sC p.ask.key, sC p.ask.val, sC p.ask.range.lo, sC p.ask.range.hi, iC p.ask.most, bC p.ask.back, iC p.code, .fz (.sl 2 ((p.pairs).map ePair))]])]) (by kernel_rfl) ?_
    refine a_seq ?_
    refine a_seq ?_
    refine a_mid (mk 54 [(1, .one (.pl [(1, 0)] 0 0)), (3, sV (bif (((txText p.tx).toList == ((⟨#[]⟩ : ByteArray)).toList)) then ((⟨#[45]⟩ : ByteArray)) else (txText p.tx))), (4, sV ((⟨#[45]⟩ : ByteArray))), (19, bV (bif (decide (p.kind ≥ 1)) then (decide (p.kind ≤ 4)) else false))] [(1, [.bx [iC p.kind, iC p.tx.c, iC p.tx.e, iC p.tx.n, iC p.ask.kind, sC p.ask.key, sC p.ask.val, sC p.ask.range.lo, sC p.ask.range.hi, iC p.ask.most, bC p.ask.back, iC p.code, .fz (.sl 2 ((p.pairs).map ePair))]])]) ?_ ?_
    · refine a_ops [0, 1, 2, 3, 4, 5, 6, 7] (by kernel_rfl) ?_
      refine ao_some [0, 1, 2, 3] [4, 5, 6, 7] [1, 3, 4, 15] tyOK (st1 := mk 54 [(1, .one (.pl [(1, 0)] 0 0)), (3, sV (bif (((txText p.tx).toList == ((⟨#[]⟩ : ByteArray)).toList)) then ((⟨#[45]⟩ : ByteArray)) else (txText p.tx))), (4, sV ((⟨#[45]⟩ : ByteArray))), (15, bV (decide (p.kind ≥ 1)))] [(1, [.bx [iC p.kind, iC p.tx.c, iC p.tx.e, iC p.tx.n, iC p.ask.kind, sC p.ask.key, sC p.ask.val, sC p.ask.range.lo, sC p.ask.range.hi, iC p.ask.most, bC p.ask.back, iC p.code, .fz (.sl 2 ((p.pairs).map ePair))]])]) (by kernel_rfl) ?_
      rcases Bool.eq_false_or_eq_true (decide (p.kind ≥ 1)) with h2 | h2
      · rw [h2]
        have g2 := h2
        try simp only [decide_eq_true_eq, decide_eq_false_iff_not] at g2
        refine ao_some [4, 5, 6, 7] [] [1, 3, 4, 19] tyOK (st1 := mk 54 [(1, .one (.pl [(1, 0)] 0 0)), (3, sV (bif (((txText p.tx).toList == ((⟨#[]⟩ : ByteArray)).toList)) then ((⟨#[45]⟩ : ByteArray)) else (txText p.tx))), (4, sV ((⟨#[45]⟩ : ByteArray))), (19, bV (decide (p.kind ≤ 4)))] [(1, [.bx [iC p.kind, iC p.tx.c, iC p.tx.e, iC p.tx.n, iC p.ask.kind, sC p.ask.key, sC p.ask.val, sC p.ask.range.lo, sC p.ask.range.hi, iC p.ask.most, bC p.ask.back, iC p.code, .fz (.sl 2 ((p.pairs).map ePair))]])]) (by kernel_rfl) ?_
        exact ao_nil (by show _ = _; kernel_rfl)
      · rw [h2]
        have g2 := h2
        try simp only [decide_eq_true_eq, decide_eq_false_iff_not] at g2
        refine ao_some [4, 5, 6, 7] [] [1, 3, 4, 19] tyOK (st1 := mk 54 [(1, .one (.pl [(1, 0)] 0 0)), (3, sV (bif (((txText p.tx).toList == ((⟨#[]⟩ : ByteArray)).toList)) then ((⟨#[45]⟩ : ByteArray)) else (txText p.tx))), (4, sV ((⟨#[45]⟩ : ByteArray))), (19, bV false)] [(1, [.bx [iC p.kind, iC p.tx.c, iC p.tx.e, iC p.tx.n, iC p.ask.kind, sC p.ask.key, sC p.ask.val, sC p.ask.range.lo, sC p.ask.range.hi, iC p.ask.most, bC p.ask.back, iC p.code, .fz (.sl 2 ((p.pairs).map ePair))]])]) (by kernel_rfl) ?_
        exact ao_nil (by show _ = _; kernel_rfl)
    refine a_mid (mk 54 [(1, .one (.pl [(1, 0)] 0 0)), (3, sV (bif (((txText p.tx).toList == ((⟨#[]⟩ : ByteArray)).toList)) then ((⟨#[45]⟩ : ByteArray)) else (txText p.tx))), (4, sV (bif (bif (decide (p.kind ≥ 1)) then (decide (p.kind ≤ 4)) else false) then (wordS p.kind) else ((⟨#[45]⟩ : ByteArray))))] [(1, [.bx [iC p.kind, iC p.tx.c, iC p.tx.e, iC p.tx.n, iC p.ask.kind, sC p.ask.key, sC p.ask.val, sC p.ask.range.lo, sC p.ask.range.hi, iC p.ask.most, bC p.ask.back, iC p.code, .fz (.sl 2 ((p.pairs).map ePair))]])]) ?_ ?_
    · refine a_cond (b := bif (decide (p.kind ≥ 1)) then (decide (p.kind ≤ 4)) else false) (by kernel_rfl) (fun h3 => ?_) (fun h3 => ?_)
      · have g3 := h3
        try simp only [decide_eq_true_eq, decide_eq_false_iff_not] at g3
        refine a_ops [0, 1, 2, 3, 4, 5] (by kernel_rfl) ?_
        refine ao_some [0, 1, 2] [3, 4, 5] [1, 3, 20, 22] tyOK (st1 := mk 54 [(1, .one (.pl [(1, 0)] 0 0)), (3, sV (bif (((txText p.tx).toList == ((⟨#[]⟩ : ByteArray)).toList)) then ((⟨#[45]⟩ : ByteArray)) else (txText p.tx))), (20, .one (.so [] 20 0 5)), (22, iV p.kind)] [(1, [.bx [iC p.kind, iC p.tx.c, iC p.tx.e, iC p.tx.n, iC p.ask.kind, sC p.ask.key, sC p.ask.val, sC p.ask.range.lo, sC p.ask.range.hi, iC p.ask.most, bC p.ask.back, iC p.code, .fz (.sl 2 ((p.pairs).map ePair))]]), (20, [.sl 1 ([[sC ((⟨#[]⟩ : ByteArray))], [sC ((⟨#[98, 101, 103, 105, 110]⟩ : ByteArray))], [sC ((⟨#[97, 115, 107]⟩ : ByteArray))], [sC ((⟨#[99, 111, 109, 109, 105, 116]⟩ : ByteArray))], [sC ((⟨#[97, 98, 111, 114, 116]⟩ : ByteArray))]])])]) (by kernel_rfl) ?_
        refine ao_freeze (fun _ _ h => h) [] 20 0 [1, 3, 20, 22] (st' := mk 54 [(1, .one (.pl [(1, 0)] 0 0)), (3, sV (bif (((txText p.tx).toList == ((⟨#[]⟩ : ByteArray)).toList)) then ((⟨#[45]⟩ : ByteArray)) else (txText p.tx))), (20, .one (.c (.sl 1 ([[sC ((⟨#[]⟩ : ByteArray))], [sC ((⟨#[98, 101, 103, 105, 110]⟩ : ByteArray))], [sC ((⟨#[97, 115, 107]⟩ : ByteArray))], [sC ((⟨#[99, 111, 109, 109, 105, 116]⟩ : ByteArray))], [sC ((⟨#[97, 98, 111, 114, 116]⟩ : ByteArray))]])))), (22, iV p.kind)] [(1, [.bx [iC p.kind, iC p.tx.c, iC p.tx.e, iC p.tx.n, iC p.ask.kind, sC p.ask.key, sC p.ask.val, sC p.ask.range.lo, sC p.ask.range.hi, iC p.ask.most, bC p.ask.back, iC p.code, .fz (.sl 2 ((p.pairs).map ePair))]])]) (by kernel_rfl) ?_
        refine ao_index (d := 23) (size := 1) (n := p.kind) (rows := [[sC ((⟨#[]⟩ : ByteArray))], [sC ((⟨#[98, 101, 103, 105, 110]⟩ : ByteArray))], [sC ((⟨#[97, 115, 107]⟩ : ByteArray))], [sC ((⟨#[99, 111, 109, 109, 105, 116]⟩ : ByteArray))], [sC ((⟨#[97, 98, 111, 114, 116]⟩ : ByteArray))]]) (st1 := mk 54 [(1, .one (.pl [(1, 0)] 0 0)), (3, sV (bif (((txText p.tx).toList == ((⟨#[]⟩ : ByteArray)).toList)) then ((⟨#[45]⟩ : ByteArray)) else (txText p.tx))), (23, .one (.fp [sC (wordS p.kind)] 0))] [(1, [.bx [iC p.kind, iC p.tx.c, iC p.tx.e, iC p.tx.n, iC p.ask.kind, sC p.ask.key, sC p.ask.val, sC p.ask.range.lo, sC p.ask.range.hi, iC p.ask.most, bC p.ask.back, iC p.code, .fz (.sl 2 ((p.pairs).map ePair))]])]) [sC (wordS p.kind)] [1, 3, 23] tyOK (by kernel_rfl) (by have := kindB h3; omega) (by exact wordS_row (kindB h3)) (by kernel_rfl) (by kernel_rfl) ?_
        refine ao_some [4, 5] [] [1, 3, 4] tyOK (st1 := mk 54 [(1, .one (.pl [(1, 0)] 0 0)), (3, sV (bif (((txText p.tx).toList == ((⟨#[]⟩ : ByteArray)).toList)) then ((⟨#[45]⟩ : ByteArray)) else (txText p.tx))), (4, sV (wordS p.kind))] [(1, [.bx [iC p.kind, iC p.tx.c, iC p.tx.e, iC p.tx.n, iC p.ask.kind, sC p.ask.key, sC p.ask.val, sC p.ask.range.lo, sC p.ask.range.hi, iC p.ask.most, bC p.ask.back, iC p.code, .fz (.sl 2 ((p.pairs).map ePair))]])]) (by kernel_rfl) ?_
        refine ao_nil ?_
        show mk 54 [(1, .one (.pl [(1, 0)] 0 0)), (3, sV (bif (((txText p.tx).toList == ((⟨#[]⟩ : ByteArray)).toList)) then ((⟨#[45]⟩ : ByteArray)) else (txText p.tx))), (4, sV (wordS p.kind))] [(1, [.bx [iC p.kind, iC p.tx.c, iC p.tx.e, iC p.tx.n, iC p.ask.kind, sC p.ask.key, sC p.ask.val, sC p.ask.range.lo, sC p.ask.range.hi, iC p.ask.most, bC p.ask.back, iC p.code, .fz (.sl 2 ((p.pairs).map ePair))]])] = mk 54 [(1, .one (.pl [(1, 0)] 0 0)), (3, sV (bif (((txText p.tx).toList == ((⟨#[]⟩ : ByteArray)).toList)) then ((⟨#[45]⟩ : ByteArray)) else (txText p.tx))), (4, sV (bif (bif (decide (p.kind ≥ 1)) then (decide (p.kind ≤ 4)) else false) then (wordS p.kind) else ((⟨#[45]⟩ : ByteArray))))] [(1, [.bx [iC p.kind, iC p.tx.c, iC p.tx.e, iC p.tx.n, iC p.ask.kind, sC p.ask.key, sC p.ask.val, sC p.ask.range.lo, sC p.ask.range.hi, iC p.ask.most, bC p.ask.back, iC p.code, .fz (.sl 2 ((p.pairs).map ePair))]])]
        first | rfl | (rw [h3, cond_true]) | (simp only [h3, cond_true, cond_false])
      · have g3 := h3
        try simp only [decide_eq_true_eq, decide_eq_false_iff_not] at g3
        refine a_keepTo [1, 3, 4] (st1 := mk 54 [(1, .one (.pl [(1, 0)] 0 0)), (3, sV (bif (((txText p.tx).toList == ((⟨#[]⟩ : ByteArray)).toList)) then ((⟨#[45]⟩ : ByteArray)) else (txText p.tx))), (4, sV ((⟨#[45]⟩ : ByteArray)))] [(1, [.bx [iC p.kind, iC p.tx.c, iC p.tx.e, iC p.tx.n, iC p.ask.kind, sC p.ask.key, sC p.ask.val, sC p.ask.range.lo, sC p.ask.range.hi, iC p.ask.most, bC p.ask.back, iC p.code, .fz (.sl 2 ((p.pairs).map ePair))]])]) (by kernel_rfl) ?_
        refine a_skip ?_
        show mk 54 [(1, .one (.pl [(1, 0)] 0 0)), (3, sV (bif (((txText p.tx).toList == ((⟨#[]⟩ : ByteArray)).toList)) then ((⟨#[45]⟩ : ByteArray)) else (txText p.tx))), (4, sV ((⟨#[45]⟩ : ByteArray)))] [(1, [.bx [iC p.kind, iC p.tx.c, iC p.tx.e, iC p.tx.n, iC p.ask.kind, sC p.ask.key, sC p.ask.val, sC p.ask.range.lo, sC p.ask.range.hi, iC p.ask.most, bC p.ask.back, iC p.code, .fz (.sl 2 ((p.pairs).map ePair))]])] = mk 54 [(1, .one (.pl [(1, 0)] 0 0)), (3, sV (bif (((txText p.tx).toList == ((⟨#[]⟩ : ByteArray)).toList)) then ((⟨#[45]⟩ : ByteArray)) else (txText p.tx))), (4, sV (bif (bif (decide (p.kind ≥ 1)) then (decide (p.kind ≤ 4)) else false) then (wordS p.kind) else ((⟨#[45]⟩ : ByteArray))))] [(1, [.bx [iC p.kind, iC p.tx.c, iC p.tx.e, iC p.tx.n, iC p.ask.kind, sC p.ask.key, sC p.ask.val, sC p.ask.range.lo, sC p.ask.range.hi, iC p.ask.most, bC p.ask.back, iC p.code, .fz (.sl 2 ((p.pairs).map ePair))]])]
        first | rfl | (rw [h3, cond_false]) | (simp only [h3, cond_true, cond_false])
    refine a_seq ?_
    refine a_ops [0, 1, 2, 3, 4, 5, 6, 7, 8, 9] (by kernel_rfl) ?_
    refine ao_some [0] [1, 2, 3, 4, 5, 6, 7, 8, 9] [1, 4, 25] tyOK (st1 := mk 54 [(1, .one (.pl [(1, 0)] 0 0)), (4, sV (bif (bif (decide (p.kind ≥ 1)) then (decide (p.kind ≤ 4)) else false) then (wordS p.kind) else ((⟨#[45]⟩ : ByteArray)))), (25, sV (bif (((txText p.tx).toList == ((⟨#[]⟩ : ByteArray)).toList)) then ((⟨#[45]⟩ : ByteArray)) else (txText p.tx)))] [(1, [.bx [iC p.kind, iC p.tx.c, iC p.tx.e, iC p.tx.n, iC p.ask.kind, sC p.ask.key, sC p.ask.val, sC p.ask.range.lo, sC p.ask.range.hi, iC p.ask.most, bC p.ask.back, iC p.code, .fz (.sl 2 ((p.pairs).map ePair))]])]) (by kernel_rfl) ?_
    refine ao_q (d := 26) (c := ((bif (((txText p.tx).toList == ((⟨#[]⟩ : ByteArray)).toList)) then ((⟨#[45]⟩ : ByteArray)) else (txText p.tx)).size + ((⟨#[32]⟩ : ByteArray)).size ≤ 140737488355328)) (tv := sV ((bif (((txText p.tx).toList == ((⟨#[]⟩ : ByteArray)).toList)) then ((⟨#[45]⟩ : ByteArray)) else (txText p.tx)) ++ ((⟨#[32]⟩ : ByteArray)))) (st1 := mk 54 [(1, .one (.pl [(1, 0)] 0 0)), (4, sV (bif (bif (decide (p.kind ≥ 1)) then (decide (p.kind ≤ 4)) else false) then (wordS p.kind) else ((⟨#[45]⟩ : ByteArray)))), (26, sV ((bif (((txText p.tx).toList == ((⟨#[]⟩ : ByteArray)).toList)) then ((⟨#[45]⟩ : ByteArray)) else (txText p.tx)) ++ ((⟨#[32]⟩ : ByteArray))))] [(1, [.bx [iC p.kind, iC p.tx.c, iC p.tx.e, iC p.tx.n, iC p.ask.kind, sC p.ask.key, sC p.ask.val, sC p.ask.range.lo, sC p.ask.range.hi, iC p.ask.most, bC p.ask.back, iC p.code, .fz (.sl 2 ((p.pairs).map ePair))]])]) [1, 4, 26] tyOK (by kernel_rfl) (by first | (have h1 := dash_size p.tx; have h2 := numText_size p.code; have h3 := kind_size p.kind; simp only [ByteArray.size_append, mv_size_mk, List.size_toArray, List.length_cons, List.length_nil]; omega) | (have ho := hS; have h1 := quote_size x1.k; have h2 := quote_size x1.v; simp only [ByteArray.size_append, mv_size_mk, List.size_toArray, List.length_cons, List.length_nil, pairTextI]; omega)) (by kernel_rfl) ?_
    refine ao_some [2] [3, 4, 5, 6, 7, 8, 9] [1, 26, 27] tyOK (st1 := mk 54 [(1, .one (.pl [(1, 0)] 0 0)), (26, sV ((bif (((txText p.tx).toList == ((⟨#[]⟩ : ByteArray)).toList)) then ((⟨#[45]⟩ : ByteArray)) else (txText p.tx)) ++ ((⟨#[32]⟩ : ByteArray)))), (27, sV (bif (bif (decide (p.kind ≥ 1)) then (decide (p.kind ≤ 4)) else false) then (wordS p.kind) else ((⟨#[45]⟩ : ByteArray))))] [(1, [.bx [iC p.kind, iC p.tx.c, iC p.tx.e, iC p.tx.n, iC p.ask.kind, sC p.ask.key, sC p.ask.val, sC p.ask.range.lo, sC p.ask.range.hi, iC p.ask.most, bC p.ask.back, iC p.code, .fz (.sl 2 ((p.pairs).map ePair))]])]) (by kernel_rfl) ?_
    refine ao_q (d := 28) (c := (((bif (((txText p.tx).toList == ((⟨#[]⟩ : ByteArray)).toList)) then ((⟨#[45]⟩ : ByteArray)) else (txText p.tx)) ++ ((⟨#[32]⟩ : ByteArray))).size + (bif (bif (decide (p.kind ≥ 1)) then (decide (p.kind ≤ 4)) else false) then (wordS p.kind) else ((⟨#[45]⟩ : ByteArray))).size ≤ 140737488355328)) (tv := sV (((bif (((txText p.tx).toList == ((⟨#[]⟩ : ByteArray)).toList)) then ((⟨#[45]⟩ : ByteArray)) else (txText p.tx)) ++ ((⟨#[32]⟩ : ByteArray))) ++ (bif (bif (decide (p.kind ≥ 1)) then (decide (p.kind ≤ 4)) else false) then (wordS p.kind) else ((⟨#[45]⟩ : ByteArray))))) (st1 := mk 54 [(1, .one (.pl [(1, 0)] 0 0)), (28, sV (((bif (((txText p.tx).toList == ((⟨#[]⟩ : ByteArray)).toList)) then ((⟨#[45]⟩ : ByteArray)) else (txText p.tx)) ++ ((⟨#[32]⟩ : ByteArray))) ++ (bif (bif (decide (p.kind ≥ 1)) then (decide (p.kind ≤ 4)) else false) then (wordS p.kind) else ((⟨#[45]⟩ : ByteArray)))))] [(1, [.bx [iC p.kind, iC p.tx.c, iC p.tx.e, iC p.tx.n, iC p.ask.kind, sC p.ask.key, sC p.ask.val, sC p.ask.range.lo, sC p.ask.range.hi, iC p.ask.most, bC p.ask.back, iC p.code, .fz (.sl 2 ((p.pairs).map ePair))]])]) [1, 28] tyOK (by kernel_rfl) (by first | (have h1 := dash_size p.tx; have h2 := numText_size p.code; have h3 := kind_size p.kind; simp only [ByteArray.size_append, mv_size_mk, List.size_toArray, List.length_cons, List.length_nil]; omega) | (have ho := hS; have h1 := quote_size x1.k; have h2 := quote_size x1.v; simp only [ByteArray.size_append, mv_size_mk, List.size_toArray, List.length_cons, List.length_nil, pairTextI]; omega)) (by kernel_rfl) ?_
    refine ao_q (d := 29) (c := ((((bif (((txText p.tx).toList == ((⟨#[]⟩ : ByteArray)).toList)) then ((⟨#[45]⟩ : ByteArray)) else (txText p.tx)) ++ ((⟨#[32]⟩ : ByteArray))) ++ (bif (bif (decide (p.kind ≥ 1)) then (decide (p.kind ≤ 4)) else false) then (wordS p.kind) else ((⟨#[45]⟩ : ByteArray)))).size + ((⟨#[32]⟩ : ByteArray)).size ≤ 140737488355328)) (tv := sV ((((bif (((txText p.tx).toList == ((⟨#[]⟩ : ByteArray)).toList)) then ((⟨#[45]⟩ : ByteArray)) else (txText p.tx)) ++ ((⟨#[32]⟩ : ByteArray))) ++ (bif (bif (decide (p.kind ≥ 1)) then (decide (p.kind ≤ 4)) else false) then (wordS p.kind) else ((⟨#[45]⟩ : ByteArray)))) ++ ((⟨#[32]⟩ : ByteArray)))) (st1 := mk 54 [(1, .one (.pl [(1, 0)] 0 0)), (29, sV ((((bif (((txText p.tx).toList == ((⟨#[]⟩ : ByteArray)).toList)) then ((⟨#[45]⟩ : ByteArray)) else (txText p.tx)) ++ ((⟨#[32]⟩ : ByteArray))) ++ (bif (bif (decide (p.kind ≥ 1)) then (decide (p.kind ≤ 4)) else false) then (wordS p.kind) else ((⟨#[45]⟩ : ByteArray)))) ++ ((⟨#[32]⟩ : ByteArray))))] [(1, [.bx [iC p.kind, iC p.tx.c, iC p.tx.e, iC p.tx.n, iC p.ask.kind, sC p.ask.key, sC p.ask.val, sC p.ask.range.lo, sC p.ask.range.hi, iC p.ask.most, bC p.ask.back, iC p.code, .fz (.sl 2 ((p.pairs).map ePair))]])]) [1, 29] tyOK (by kernel_rfl) (by first | (have h1 := dash_size p.tx; have h2 := numText_size p.code; have h3 := kind_size p.kind; simp only [ByteArray.size_append, mv_size_mk, List.size_toArray, List.length_cons, List.length_nil]; omega) | (have ho := hS; have h1 := quote_size x1.k; have h2 := quote_size x1.v; simp only [ByteArray.size_append, mv_size_mk, List.size_toArray, List.length_cons, List.length_nil, pairTextI]; omega)) (by kernel_rfl) ?_
    refine ao_some [5, 6] [7, 8, 9] [1, 29, 31] tyOK (st1 := mk 54 [(1, .one (.pl [(1, 0)] 0 0)), (29, sV ((((bif (((txText p.tx).toList == ((⟨#[]⟩ : ByteArray)).toList)) then ((⟨#[45]⟩ : ByteArray)) else (txText p.tx)) ++ ((⟨#[32]⟩ : ByteArray))) ++ (bif (bif (decide (p.kind ≥ 1)) then (decide (p.kind ≤ 4)) else false) then (wordS p.kind) else ((⟨#[45]⟩ : ByteArray)))) ++ ((⟨#[32]⟩ : ByteArray)))), (31, iV p.code)] [(1, [.bx [iC p.kind, iC p.tx.c, iC p.tx.e, iC p.tx.n, iC p.ask.kind, sC p.ask.key, sC p.ask.val, sC p.ask.range.lo, sC p.ask.range.hi, iC p.ask.most, bC p.ask.back, iC p.code, .fz (.sl 2 ((p.pairs).map ePair))]])]) (by kernel_rfl) ?_
    refine ao_enter (f := 50) (d := 32) (A := [iV p.code]) (st1 := mk 54 [(1, .one (.pl [(1, 0)] 0 0)), (29, sV ((((bif (((txText p.tx).toList == ((⟨#[]⟩ : ByteArray)).toList)) then ((⟨#[45]⟩ : ByteArray)) else (txText p.tx)) ++ ((⟨#[32]⟩ : ByteArray))) ++ (bif (bif (decide (p.kind ≥ 1)) then (decide (p.kind ≤ 4)) else false) then (wordS p.kind) else ((⟨#[45]⟩ : ByteArray)))) ++ ((⟨#[32]⟩ : ByteArray)))), (32, sV (numText p.code))] [(1, [.bx [iC p.kind, iC p.tx.c, iC p.tx.e, iC p.tx.n, iC p.ask.kind, sC p.ask.key, sC p.ask.val, sC p.ask.range.lo, sC p.ask.range.hi, iC p.ask.most, bC p.ask.back, iC p.code, .fz (.sl 2 ((p.pairs).map ePair))]])]) [1, 29, 32] (okNumTextS p.code) Try.call50 (by kernel_rfl) (by kernel_rfl) (by kernel_rfl) ?_
    refine ao_q (d := 33) (c := (((((bif (((txText p.tx).toList == ((⟨#[]⟩ : ByteArray)).toList)) then ((⟨#[45]⟩ : ByteArray)) else (txText p.tx)) ++ ((⟨#[32]⟩ : ByteArray))) ++ (bif (bif (decide (p.kind ≥ 1)) then (decide (p.kind ≤ 4)) else false) then (wordS p.kind) else ((⟨#[45]⟩ : ByteArray)))) ++ ((⟨#[32]⟩ : ByteArray))).size + (numText p.code).size ≤ 140737488355328)) (tv := sV (((((bif (((txText p.tx).toList == ((⟨#[]⟩ : ByteArray)).toList)) then ((⟨#[45]⟩ : ByteArray)) else (txText p.tx)) ++ ((⟨#[32]⟩ : ByteArray))) ++ (bif (bif (decide (p.kind ≥ 1)) then (decide (p.kind ≤ 4)) else false) then (wordS p.kind) else ((⟨#[45]⟩ : ByteArray)))) ++ ((⟨#[32]⟩ : ByteArray))) ++ (numText p.code))) (st1 := mk 54 [(1, .one (.pl [(1, 0)] 0 0)), (33, sV (((((bif (((txText p.tx).toList == ((⟨#[]⟩ : ByteArray)).toList)) then ((⟨#[45]⟩ : ByteArray)) else (txText p.tx)) ++ ((⟨#[32]⟩ : ByteArray))) ++ (bif (bif (decide (p.kind ≥ 1)) then (decide (p.kind ≤ 4)) else false) then (wordS p.kind) else ((⟨#[45]⟩ : ByteArray)))) ++ ((⟨#[32]⟩ : ByteArray))) ++ (numText p.code)))] [(1, [.bx [iC p.kind, iC p.tx.c, iC p.tx.e, iC p.tx.n, iC p.ask.kind, sC p.ask.key, sC p.ask.val, sC p.ask.range.lo, sC p.ask.range.hi, iC p.ask.most, bC p.ask.back, iC p.code, .fz (.sl 2 ((p.pairs).map ePair))]])]) [1, 33] tyOK (by kernel_rfl) (by first | (have h1 := dash_size p.tx; have h2 := numText_size p.code; have h3 := kind_size p.kind; simp only [ByteArray.size_append, mv_size_mk, List.size_toArray, List.length_cons, List.length_nil]; omega) | (have ho := hS; have h1 := quote_size x1.k; have h2 := quote_size x1.v; simp only [ByteArray.size_append, mv_size_mk, List.size_toArray, List.length_cons, List.length_nil, pairTextI]; omega)) (by kernel_rfl) ?_
    refine ao_some [9] [] [1, 3] tyOK (st1 := mk 54 [(1, .one (.pl [(1, 0)] 0 0)), (3, sV (((((bif (((txText p.tx).toList == ((⟨#[]⟩ : ByteArray)).toList)) then ((⟨#[45]⟩ : ByteArray)) else (txText p.tx)) ++ ((⟨#[32]⟩ : ByteArray))) ++ (bif (bif (decide (p.kind ≥ 1)) then (decide (p.kind ≤ 4)) else false) then (wordS p.kind) else ((⟨#[45]⟩ : ByteArray)))) ++ ((⟨#[32]⟩ : ByteArray))) ++ (numText p.code)))] [(1, [.bx [iC p.kind, iC p.tx.c, iC p.tx.e, iC p.tx.n, iC p.ask.kind, sC p.ask.key, sC p.ask.val, sC p.ask.range.lo, sC p.ask.range.hi, iC p.ask.most, bC p.ask.back, iC p.code, .fz (.sl 2 ((p.pairs).map ePair))]])]) (by kernel_rfl) ?_
    refine ao_nil ?_
    refine a_seq ?_
    refine a_seq ?_
    refine a_run [3, 35, 36, 37] tyOK (st1 := mk 54 [(3, sV (((((bif (((txText p.tx).toList == ((⟨#[]⟩ : ByteArray)).toList)) then ((⟨#[45]⟩ : ByteArray)) else (txText p.tx)) ++ ((⟨#[32]⟩ : ByteArray))) ++ (bif (bif (decide (p.kind ≥ 1)) then (decide (p.kind ≤ 4)) else false) then (wordS p.kind) else ((⟨#[45]⟩ : ByteArray)))) ++ ((⟨#[32]⟩ : ByteArray))) ++ (numText p.code))), (35, .one (.c (.sl 2 ((p.pairs).map ePair)))), (36, iV (((((p.pairs).map ePair).length : Nat) : Int))), (37, iV 0)] []) (by kernel_rfl) ?_
    refine a_block ?_
    refine a_keep [3, 35, 36, 37] ?_
    refine a_loop (ι := L23_1 p) (fun ⟨k, o, _⟩ => mk 54 [(3, sV o), (35, .one (.c (.sl 2 ((p.pairs).map ePair)))), (36, iV (((((p.pairs).map ePair).length : Nat) : Int))), (37, iV (((k : Nat) : Int)))] []) (fun ⟨k, o, _⟩ => p.pairs.length - k) ⟨0, (headS p), Nat.zero_le _, by have := headS_size p; omega, rfl⟩ (by kernel_rfl) ?_
    rintro ⟨k, o, hI⟩
    obtain ⟨hk, hS, hR⟩ := hI
    show AWp _ _ _ _ (mk 54 [(3, sV o), (35, .one (.c (.sl 2 ((p.pairs).map ePair)))), (36, iV (((((p.pairs).map ePair).length : Nat) : Int))), (37, iV (((k : Nat) : Int)))] [])
    refine a_seq ?_
    refine a_run [3, 35, 36, 37, 38] tyOK (st1 := mk 54 [(3, sV o), (35, .one (.c (.sl 2 ((p.pairs).map ePair)))), (36, iV (((((p.pairs).map ePair).length : Nat) : Int))), (37, iV (((k : Nat) : Int))), (38, bV (decide ((((k : Nat) : Int)) < (((((p.pairs).map ePair).length : Nat) : Int)))))] []) (by kernel_rfl) ?_
    refine a_seq ?_
    refine a_cond (b := decide ((((k : Nat) : Int)) < (((((p.pairs).map ePair).length : Nat) : Int)))) (by kernel_rfl) (fun h4 => ?_) (fun h4 => ?_)
    · have g4 := h4
      try simp only [decide_eq_true_eq, decide_eq_false_iff_not, List.length_map] at g4
      refine a_skip ?_
      refine a_seq ?_
      refine a_block ?_
      refine a_seq ?_
      refine a_ops [0, 1, 2, 3] (by kernel_rfl) ?_
      have p1 : 0 ≤ (((k : Nat) : Int)) ∧ (((k : Nat) : Int)).toNat < (p.pairs).length := by first | omega | (rw [mv_wrap (by omega) (by omega)]; omega)
      obtain ⟨x1, q1⟩ : ∃ x, (p.pairs)[(((k : Nat) : Int)).toNat]? = some x := ⟨_, List.getElem?_eq_getElem p1.2⟩
      have r1 := q1
      try simp only [Int.toNat_natCast] at r1
      refine ao_index (d := 39) (size := 2) (n := ((k : Nat) : Int)) (rows := (p.pairs).map ePair) (st1 := mk 54 [(3, sV o), (35, .one (.c (.sl 2 ((p.pairs).map ePair)))), (36, iV (((((p.pairs).map ePair).length : Nat) : Int))), (37, iV (((k : Nat) : Int))), (39, .one (.fp [sC x1.k, sC x1.v] 0))] []) (ePair x1) [3, 35, 36, 37, 39] tyOK (by kernel_rfl) p1.1 (by rw [List.getElem?_map, q1]; rfl) (by kernel_rfl) (by kernel_rfl) ?_
      refine ao_some [1, 2, 3] [] [3, 6, 35, 36, 37] tyOK (st1 := mk 54 [(3, sV o), (6, .one (.pl [(6, 0)] 0 0)), (35, .one (.c (.sl 2 ((p.pairs).map ePair)))), (36, iV (((((p.pairs).map ePair).length : Nat) : Int))), (37, iV (((k : Nat) : Int)))] [(6, [.bx [sC x1.k, sC x1.v]])]) (by kernel_rfl) ?_
      refine ao_nil ?_
      refine a_mid (mk 54 [(3, sV ((((o ++ ((⟨#[32]⟩ : ByteArray))) ++ (quote x1.k)) ++ ((⟨#[61]⟩ : ByteArray))) ++ (quote x1.v))), (35, .one (.c (.sl 2 ((p.pairs).map ePair)))), (36, iV (((((p.pairs).map ePair).length : Nat) : Int))), (37, iV (((k : Nat) : Int)))] []) ?_ ?_
      · refine a_drawn (n := 12) [] (by kernel_rfl) (by kernel_rfl) ?_
        refine aa_take (fuel := 7) (listed' := #[true, false, true, true, false, false, false, true, true, false, false, false]) (st' := mk 54 [(35, .one (.c (.sl 2 ((p.pairs).map ePair)))), (36, iV (((((p.pairs).map ePair).length : Nat) : Int))), (37, iV (((k : Nat) : Int))), (41, sV o), (44, sV x1.k), (49, sV x1.v)] []) [0, 2, 3, 7, 8] [35, 36, 37, 41, 44, 49] tyOK (by kernel_rfl) (by kernel_rfl) (by kernel_rfl) ?_
        refine aa_q (i := 1) (d := 42) (c := (o.size + ((⟨#[32]⟩ : ByteArray)).size ≤ 140737488355328)) (tv := sV (o ++ ((⟨#[32]⟩ : ByteArray)))) (listed' := #[true, true, true, true, false, false, false, true, true, false, false, false]) (st1 := mk 54 [(35, .one (.c (.sl 2 ((p.pairs).map ePair)))), (36, iV (((((p.pairs).map ePair).length : Nat) : Int))), (37, iV (((k : Nat) : Int))), (42, sV (o ++ ((⟨#[32]⟩ : ByteArray)))), (44, sV x1.k), (49, sV x1.v)] []) [35, 36, 37, 42, 44, 49] tyOK (by kernel_rfl) (by kernel_rfl) (by first | (have h1 := dash_size p.tx; have h2 := numText_size p.code; have h3 := kind_size p.kind; simp only [ByteArray.size_append, mv_size_mk, List.size_toArray, List.length_cons, List.length_nil]; omega) | (have ho := hS; have h1 := quote_size x1.k; have h2 := quote_size x1.v; simp only [ByteArray.size_append, mv_size_mk, List.size_toArray, List.length_cons, List.length_nil, pairTextI]; omega)) (by kernel_rfl) (by kernel_rfl) (by kernel_rfl) ?_
        refine aa_all [4] (by kernel_rfl) rfl ?_
        refine aa_cons ?_ aa_nil
        refine aone_enter (listed' := #[true, true, true, true, true, false, false, true, true, false, false, false]) (f := 51) (d := 45) (A := [sV x1.k]) (st1 := mk 54 [(35, .one (.c (.sl 2 ((p.pairs).map ePair)))), (36, iV (((((p.pairs).map ePair).length : Nat) : Int))), (37, iV (((k : Nat) : Int))), (42, sV (o ++ ((⟨#[32]⟩ : ByteArray)))), (45, sV (quote x1.k)), (49, sV x1.v)] []) [35, 36, 37, 42, 45, 49] (okQuoteS x1.k) Try.call51 (by kernel_rfl) (by kernel_rfl) (by kernel_rfl) (by kernel_rfl) ?_
        refine aa_q (i := 5) (d := 46) (c := ((o ++ ((⟨#[32]⟩ : ByteArray))).size + (quote x1.k).size ≤ 140737488355328)) (tv := sV ((o ++ ((⟨#[32]⟩ : ByteArray))) ++ (quote x1.k))) (listed' := #[true, true, true, true, true, true, false, true, true, false, false, false]) (st1 := mk 54 [(35, .one (.c (.sl 2 ((p.pairs).map ePair)))), (36, iV (((((p.pairs).map ePair).length : Nat) : Int))), (37, iV (((k : Nat) : Int))), (46, sV ((o ++ ((⟨#[32]⟩ : ByteArray))) ++ (quote x1.k))), (49, sV x1.v)] []) [35, 36, 37, 46, 49] tyOK (by kernel_rfl) (by kernel_rfl) (by first | (have h1 := dash_size p.tx; have h2 := numText_size p.code; have h3 := kind_size p.kind; simp only [ByteArray.size_append, mv_size_mk, List.size_toArray, List.length_cons, List.length_nil]; omega) | (have ho := hS; have h1 := quote_size x1.k; have h2 := quote_size x1.v; simp only [ByteArray.size_append, mv_size_mk, List.size_toArray, List.length_cons, List.length_nil, pairTextI]; omega)) (by kernel_rfl) (by kernel_rfl) (by kernel_rfl) ?_
        refine aa_q (i := 6) (d := 47) (c := (((o ++ ((⟨#[32]⟩ : ByteArray))) ++ (quote x1.k)).size + ((⟨#[61]⟩ : ByteArray)).size ≤ 140737488355328)) (tv := sV (((o ++ ((⟨#[32]⟩ : ByteArray))) ++ (quote x1.k)) ++ ((⟨#[61]⟩ : ByteArray)))) (listed' := #[true, true, true, true, true, true, true, true, true, false, false, false]) (st1 := mk 54 [(35, .one (.c (.sl 2 ((p.pairs).map ePair)))), (36, iV (((((p.pairs).map ePair).length : Nat) : Int))), (37, iV (((k : Nat) : Int))), (47, sV (((o ++ ((⟨#[32]⟩ : ByteArray))) ++ (quote x1.k)) ++ ((⟨#[61]⟩ : ByteArray)))), (49, sV x1.v)] []) [35, 36, 37, 47, 49] tyOK (by kernel_rfl) (by kernel_rfl) (by first | (have h1 := dash_size p.tx; have h2 := numText_size p.code; have h3 := kind_size p.kind; simp only [ByteArray.size_append, mv_size_mk, List.size_toArray, List.length_cons, List.length_nil]; omega) | (have ho := hS; have h1 := quote_size x1.k; have h2 := quote_size x1.v; simp only [ByteArray.size_append, mv_size_mk, List.size_toArray, List.length_cons, List.length_nil, pairTextI]; omega)) (by kernel_rfl) (by kernel_rfl) (by kernel_rfl) ?_
        refine aa_all [9] (by kernel_rfl) rfl ?_
        refine aa_cons ?_ aa_nil
        refine aone_enter (listed' := #[true, true, true, true, true, true, true, true, true, true, false, false]) (f := 51) (d := 50) (A := [sV x1.v]) (st1 := mk 54 [(35, .one (.c (.sl 2 ((p.pairs).map ePair)))), (36, iV (((((p.pairs).map ePair).length : Nat) : Int))), (37, iV (((k : Nat) : Int))), (47, sV (((o ++ ((⟨#[32]⟩ : ByteArray))) ++ (quote x1.k)) ++ ((⟨#[61]⟩ : ByteArray)))), (50, sV (quote x1.v))] []) [35, 36, 37, 47, 50] (okQuoteS x1.v) Try.call51 (by kernel_rfl) (by kernel_rfl) (by kernel_rfl) (by kernel_rfl) ?_
        refine aa_q (i := 10) (d := 51) (c := ((((o ++ ((⟨#[32]⟩ : ByteArray))) ++ (quote x1.k)) ++ ((⟨#[61]⟩ : ByteArray))).size + (quote x1.v).size ≤ 140737488355328)) (tv := sV ((((o ++ ((⟨#[32]⟩ : ByteArray))) ++ (quote x1.k)) ++ ((⟨#[61]⟩ : ByteArray))) ++ (quote x1.v))) (listed' := #[true, true, true, true, true, true, true, true, true, true, true, false]) (st1 := mk 54 [(35, .one (.c (.sl 2 ((p.pairs).map ePair)))), (36, iV (((((p.pairs).map ePair).length : Nat) : Int))), (37, iV (((k : Nat) : Int))), (51, sV ((((o ++ ((⟨#[32]⟩ : ByteArray))) ++ (quote x1.k)) ++ ((⟨#[61]⟩ : ByteArray))) ++ (quote x1.v)))] []) [35, 36, 37, 51] tyOK (by kernel_rfl) (by kernel_rfl) (by first | (have h1 := dash_size p.tx; have h2 := numText_size p.code; have h3 := kind_size p.kind; simp only [ByteArray.size_append, mv_size_mk, List.size_toArray, List.length_cons, List.length_nil]; omega) | (have ho := hS; have h1 := quote_size x1.k; have h2 := quote_size x1.v; simp only [ByteArray.size_append, mv_size_mk, List.size_toArray, List.length_cons, List.length_nil, pairTextI]; omega)) (by kernel_rfl) (by kernel_rfl) (by kernel_rfl) ?_
        refine aa_take (fuel := 0) (listed' := #[true, true, true, true, true, true, true, true, true, true, true, true]) (st' := mk 54 [(3, sV ((((o ++ ((⟨#[32]⟩ : ByteArray))) ++ (quote x1.k)) ++ ((⟨#[61]⟩ : ByteArray))) ++ (quote x1.v))), (35, .one (.c (.sl 2 ((p.pairs).map ePair)))), (36, iV (((((p.pairs).map ePair).length : Nat) : Int))), (37, iV (((k : Nat) : Int)))] []) [11] [3, 35, 36, 37] tyOK (by kernel_rfl) (by kernel_rfl) (by kernel_rfl) ?_
        refine aa_done (by kernel_rfl) ?_
        show _ = _; kernel_rfl
      refine a_run [3, 35, 36, 37] tyOK (st1 := mk 54 [(3, sV ((((o ++ ((⟨#[32]⟩ : ByteArray))) ++ (quote x1.k)) ++ ((⟨#[61]⟩ : ByteArray))) ++ (quote x1.v))), (35, .one (.c (.sl 2 ((p.pairs).map ePair)))), (36, iV (((((p.pairs).map ePair).length : Nat) : Int))), (37, iV (IntKind.wrap .i64 ((((k : Nat) : Int)) + 1)))] []) (by kernel_rfl) ?_
      refine ⟨⟨(k + 1), ((((o ++ ⟨#[32]⟩) ++ quote x1.k) ++ ⟨#[61]⟩) ++ quote x1.v), ?_⟩, ?_, ?_⟩
      · exact ⟨by omega, by (have h1 := quote_size x1.k; have h2 := quote_size x1.v; simp only [ByteArray.size_append, mv_size_mk, List.size_toArray, List.length_cons, List.length_nil, pairTextI]; omega), by rw [← hR, drop_of_get r1, pairsL]⟩
      · exact (show _ = mk 54 [(3, sV ((((o ++ ((⟨#[32]⟩ : ByteArray))) ++ (quote x1.k)) ++ ((⟨#[61]⟩ : ByteArray))) ++ (quote x1.v))), (35, .one (.c (.sl 2 ((p.pairs).map ePair)))), (36, iV (((((p.pairs).map ePair).length : Nat) : Int))), (37, iV (IntKind.wrap .i64 ((((k : Nat) : Int)) + 1)))] [] by kernel_rfl).trans (by rw [mv_wrap (n := (k : Int) + 1) (by omega) (by omega)]; rfl)
      · dsimp only; omega
    · have g4 := h4
      try simp only [decide_eq_true_eq, decide_eq_false_iff_not, List.length_map] at g4
      refine a_exit ?_
      refine a_seq ?_
      refine a_run [2] tyOK (st1 := mk 54 [(2, sV o)] []) (by kernel_rfl) ?_
      refine a_ret ?_
      have e : replyText p = o := by
          rw [replyText, ← hR, List.drop_eq_nil_of_le (by omega), pairsL]
      exact end_eq (res' := sV o) (by kernel_rfl) (by rw [e])


theorem kindI_eq (k : Int) : (bif (k == 1) then (⟨#[98, 101, 103, 105, 110]⟩ : ByteArray) else (bif (k == 2) then (⟨#[97, 115, 107]⟩ : ByteArray) else (bif (k == 3) then (⟨#[99, 111, 109, 109, 105, 116]⟩ : ByteArray) else (bif (k == 4) then (⟨#[97, 98, 111, 114, 116]⟩ : ByteArray) else (⟨#[45]⟩ : ByteArray))))) = kindT k := by
  by_cases h : 1 ≤ k ∧ k ≤ 4
  · obtain h | h | h | h : k = 1 ∨ k = 2 ∨ k = 3 ∨ k = 4 := by omega
    all_goals subst h; rfl
  · have e : (bif decide (k ≥ 1) then decide (k ≤ 4) else false) = false := by
      rw [Bool.eq_false_iff]; exact fun hx => h (kindB hx)
    have f : ∀ j : Int, 1 ≤ j → j ≤ 4 → (k == j) = false := fun j h1 h2 => by
      rw [beq_eq_false_iff_ne]; rintro rfl; exact h ⟨h1, h2⟩
    rw [kindT, e, f 1 (by decide) (by decide), f 2 (by decide) (by decide), f 3 (by decide) (by decide), f 4 (by decide) (by decide)]
    rfl
theorem dashI_size (x : Tx) : (orDashI (txText x)).size ≤ 41 := dashT_size x
theorem kindI_size (k : Int) : (bif (k == 1) then (⟨#[98, 101, 103, 105, 110]⟩ : ByteArray) else (bif (k == 2) then (⟨#[97, 115, 107]⟩ : ByteArray) else (bif (k == 3) then (⟨#[99, 111, 109, 109, 105, 116]⟩ : ByteArray) else (bif (k == 4) then (⟨#[97, 98, 111, 114, 116]⟩ : ByteArray) else (⟨#[45]⟩ : ByteArray))))).size ≤ 6 := by
  rw [kindI_eq]; exact kindT_size k
def headI (p : Reply) : ByteArray := (((orDashI (txText p.tx) ++ ⟨#[32]⟩) ++ (bif (p.kind == 1) then (⟨#[98, 101, 103, 105, 110]⟩ : ByteArray) else (bif (p.kind == 2) then (⟨#[97, 115, 107]⟩ : ByteArray) else (bif (p.kind == 3) then (⟨#[99, 111, 109, 109, 105, 116]⟩ : ByteArray) else (bif (p.kind == 4) then (⟨#[97, 98, 111, 114, 116]⟩ : ByteArray) else (⟨#[45]⟩ : ByteArray)))))) ++ ⟨#[32]⟩) ++ numText p.code
theorem headI_eq (p : Reply) : headI p = headS p := by
  rw [headI, kindI_eq]
  rfl
theorem pairText_eq (o : ByteArray) (x : Pair) : (o ++ ⟨#[32]⟩) ++ pairTextI x = (((o ++ ⟨#[32]⟩) ++ quote x.k) ++ ⟨#[61]⟩) ++ quote x.v := by
  simp only [pairTextI, ByteArray.append_assoc]

structure L25_1 (p : Reply) where
  k : Nat
  o : ByteArray
  inv : k ≤ p.pairs.length ∧ o.size ≤ 200 + 25000 * k ∧ pairsL (p.pairs.drop k) o = pairsL p.pairs (headS p)

/-- impl.ReplyText -/
theorem ok25 (p : Reply) (hp : p.pairs.length ≤ 1048576) : CallOK Try.prog 25 [.agg [.c (iC p.kind), .c (iC p.tx.c), .c (iC p.tx.e), .c (iC p.tx.n), .c (iC p.ask.kind), .c (sC p.ask.key), .c (sC p.ask.val), .c (sC p.ask.range.lo), .c (sC p.ask.range.hi), .c (iC p.ask.most), .c (bC p.ask.back), .c (iC p.code), .c (.sl 2 ((p.pairs).map ePair))]] (sV (replyText p)) [] :=
  callOK tyOK Try.func25 rfl fun w S hS => by
    refine a_seq ?_
    refine a_run [1] tyOK (st1 := mk 43 [(1, .one (.pl [(1, 0)] 0 0))] [(1, [.bx [iC p.kind, iC p.tx.c, iC p.tx.e, iC p.tx.n, iC p.ask.kind, sC p.ask.key, sC p.ask.val, sC p.ask.range.lo, sC p.ask.range.hi, iC p.ask.most, bC p.ask.back, iC p.code, .fz (.sl 2 ((p.pairs).map ePair))]])]) (by kernel_rfl) ?_
    refine a_seq ?_
    refine a_run [1, 3] tyOK (st1 := mk 43 [(1, .one (.pl [(1, 0)] 0 0)), (3, sV ((⟨#[45]⟩ : ByteArray)))] [(1, [.bx [iC p.kind, iC p.tx.c, iC p.tx.e, iC p.tx.n, iC p.ask.kind, sC p.ask.key, sC p.ask.val, sC p.ask.range.lo, sC p.ask.range.hi, iC p.ask.most, bC p.ask.back, iC p.code, .fz (.sl 2 ((p.pairs).map ePair))]])]) (by kernel_rfl) ?_
    refine a_seq ?_
    refine a_seq ?_
    refine a_run [1, 3, 8] tyOK (st1 := mk 43 [(1, .one (.pl [(1, 0)] 0 0)), (3, sV ((⟨#[45]⟩ : ByteArray))), (8, iV p.kind)] [(1, [.bx [iC p.kind, iC p.tx.c, iC p.tx.e, iC p.tx.n, iC p.ask.kind, sC p.ask.key, sC p.ask.val, sC p.ask.range.lo, sC p.ask.range.hi, iC p.ask.most, bC p.ask.back, iC p.code, .fz (.sl 2 ((p.pairs).map ePair))]])]) (by kernel_rfl) ?_
    refine a_mid (mk 43 [(1, .one (.pl [(1, 0)] 0 0)), (3, sV (bif ((p.kind == 1)) then ((⟨#[98, 101, 103, 105, 110]⟩ : ByteArray)) else (bif ((p.kind == 2)) then ((⟨#[97, 115, 107]⟩ : ByteArray)) else (bif ((p.kind == 3)) then ((⟨#[99, 111, 109, 109, 105, 116]⟩ : ByteArray)) else (bif ((p.kind == 4)) then ((⟨#[97, 98, 111, 114, 116]⟩ : ByteArray)) else ((⟨#[45]⟩ : ByteArray)))))))] [(1, [.bx [iC p.kind, iC p.tx.c, iC p.tx.e, iC p.tx.n, iC p.ask.kind, sC p.ask.key, sC p.ask.val, sC p.ask.range.lo, sC p.ask.range.hi, iC p.ask.most, bC p.ask.back, iC p.code, .fz (.sl 2 ((p.pairs).map ePair))]])]) ?_ ?_
    · refine a_block ?_
      refine a_seq ?_
      refine a_run [1, 3, 8, 9] tyOK (st1 := mk 43 [(1, .one (.pl [(1, 0)] 0 0)), (3, sV ((⟨#[45]⟩ : ByteArray))), (8, iV p.kind), (9, bV ((p.kind == 1)))] [(1, [.bx [iC p.kind, iC p.tx.c, iC p.tx.e, iC p.tx.n, iC p.ask.kind, sC p.ask.key, sC p.ask.val, sC p.ask.range.lo, sC p.ask.range.hi, iC p.ask.most, bC p.ask.back, iC p.code, .fz (.sl 2 ((p.pairs).map ePair))]])]) (by kernel_rfl) ?_
      refine a_cond (b := (p.kind == 1)) (by kernel_rfl) (fun h1 => ?_) (fun h1 => ?_)
      · have g1 := h1
        try simp only [beq_iff_eq, beq_eq_false_iff_ne] at g1
        refine a_run [1, 3] tyOK (st1 := mk 43 [(1, .one (.pl [(1, 0)] 0 0)), (3, sV ((⟨#[98, 101, 103, 105, 110]⟩ : ByteArray)))] [(1, [.bx [iC p.kind, iC p.tx.c, iC p.tx.e, iC p.tx.n, iC p.ask.kind, sC p.ask.key, sC p.ask.val, sC p.ask.range.lo, sC p.ask.range.hi, iC p.ask.most, bC p.ask.back, iC p.code, .fz (.sl 2 ((p.pairs).map ePair))]])]) (by kernel_rfl) ?_
        show mk 43 [(1, .one (.pl [(1, 0)] 0 0)), (3, sV ((⟨#[98, 101, 103, 105, 110]⟩ : ByteArray)))] [(1, [.bx [iC p.kind, iC p.tx.c, iC p.tx.e, iC p.tx.n, iC p.ask.kind, sC p.ask.key, sC p.ask.val, sC p.ask.range.lo, sC p.ask.range.hi, iC p.ask.most, bC p.ask.back, iC p.code, .fz (.sl 2 ((p.pairs).map ePair))]])] = mk 43 [(1, .one (.pl [(1, 0)] 0 0)), (3, sV (bif ((p.kind == 1)) then ((⟨#[98, 101, 103, 105, 110]⟩ : ByteArray)) else (bif ((p.kind == 2)) then ((⟨#[97, 115, 107]⟩ : ByteArray)) else (bif ((p.kind == 3)) then ((⟨#[99, 111, 109, 109, 105, 116]⟩ : ByteArray)) else (bif ((p.kind == 4)) then ((⟨#[97, 98, 111, 114, 116]⟩ : ByteArray)) else ((⟨#[45]⟩ : ByteArray)))))))] [(1, [.bx [iC p.kind, iC p.tx.c, iC p.tx.e, iC p.tx.n, iC p.ask.kind, sC p.ask.key, sC p.ask.val, sC p.ask.range.lo, sC p.ask.range.hi, iC p.ask.most, bC p.ask.back, iC p.code, .fz (.sl 2 ((p.pairs).map ePair))]])]
        first | rfl | (rw [h1, cond_true]) | (simp only [h1, cond_true, cond_false])
      · have g1 := h1
        try simp only [beq_iff_eq, beq_eq_false_iff_ne] at g1
        refine a_seq ?_
        refine a_run [1, 3, 8, 11] tyOK (st1 := mk 43 [(1, .one (.pl [(1, 0)] 0 0)), (3, sV ((⟨#[45]⟩ : ByteArray))), (8, iV p.kind), (11, bV ((p.kind == 2)))] [(1, [.bx [iC p.kind, iC p.tx.c, iC p.tx.e, iC p.tx.n, iC p.ask.kind, sC p.ask.key, sC p.ask.val, sC p.ask.range.lo, sC p.ask.range.hi, iC p.ask.most, bC p.ask.back, iC p.code, .fz (.sl 2 ((p.pairs).map ePair))]])]) (by kernel_rfl) ?_
        refine a_cond (b := (p.kind == 2)) (by kernel_rfl) (fun h2 => ?_) (fun h2 => ?_)
        · have g2 := h2
          try simp only [beq_iff_eq, beq_eq_false_iff_ne] at g2
          refine a_run [1, 3] tyOK (st1 := mk 43 [(1, .one (.pl [(1, 0)] 0 0)), (3, sV ((⟨#[97, 115, 107]⟩ : ByteArray)))] [(1, [.bx [iC p.kind, iC p.tx.c, iC p.tx.e, iC p.tx.n, iC p.ask.kind, sC p.ask.key, sC p.ask.val, sC p.ask.range.lo, sC p.ask.range.hi, iC p.ask.most, bC p.ask.back, iC p.code, .fz (.sl 2 ((p.pairs).map ePair))]])]) (by kernel_rfl) ?_
          show mk 43 [(1, .one (.pl [(1, 0)] 0 0)), (3, sV ((⟨#[97, 115, 107]⟩ : ByteArray)))] [(1, [.bx [iC p.kind, iC p.tx.c, iC p.tx.e, iC p.tx.n, iC p.ask.kind, sC p.ask.key, sC p.ask.val, sC p.ask.range.lo, sC p.ask.range.hi, iC p.ask.most, bC p.ask.back, iC p.code, .fz (.sl 2 ((p.pairs).map ePair))]])] = mk 43 [(1, .one (.pl [(1, 0)] 0 0)), (3, sV (bif ((p.kind == 1)) then ((⟨#[98, 101, 103, 105, 110]⟩ : ByteArray)) else (bif ((p.kind == 2)) then ((⟨#[97, 115, 107]⟩ : ByteArray)) else (bif ((p.kind == 3)) then ((⟨#[99, 111, 109, 109, 105, 116]⟩ : ByteArray)) else (bif ((p.kind == 4)) then ((⟨#[97, 98, 111, 114, 116]⟩ : ByteArray)) else ((⟨#[45]⟩ : ByteArray)))))))] [(1, [.bx [iC p.kind, iC p.tx.c, iC p.tx.e, iC p.tx.n, iC p.ask.kind, sC p.ask.key, sC p.ask.val, sC p.ask.range.lo, sC p.ask.range.hi, iC p.ask.most, bC p.ask.back, iC p.code, .fz (.sl 2 ((p.pairs).map ePair))]])]
          first | rfl | (rw [h1, cond_false, h2, cond_true]) | (simp only [h1, h2, cond_true, cond_false])
        · have g2 := h2
          try simp only [beq_iff_eq, beq_eq_false_iff_ne] at g2
          refine a_seq ?_
          refine a_run [1, 3, 8, 13] tyOK (st1 := mk 43 [(1, .one (.pl [(1, 0)] 0 0)), (3, sV ((⟨#[45]⟩ : ByteArray))), (8, iV p.kind), (13, bV ((p.kind == 3)))] [(1, [.bx [iC p.kind, iC p.tx.c, iC p.tx.e, iC p.tx.n, iC p.ask.kind, sC p.ask.key, sC p.ask.val, sC p.ask.range.lo, sC p.ask.range.hi, iC p.ask.most, bC p.ask.back, iC p.code, .fz (.sl 2 ((p.pairs).map ePair))]])]) (by kernel_rfl) ?_
          refine a_cond (b := (p.kind == 3)) (by kernel_rfl) (fun h3 => ?_) (fun h3 => ?_)
          · have g3 := h3
            try simp only [beq_iff_eq, beq_eq_false_iff_ne] at g3
            refine a_run [1, 3] tyOK (st1 := mk 43 [(1, .one (.pl [(1, 0)] 0 0)), (3, sV ((⟨#[99, 111, 109, 109, 105, 116]⟩ : ByteArray)))] [(1, [.bx [iC p.kind, iC p.tx.c, iC p.tx.e, iC p.tx.n, iC p.ask.kind, sC p.ask.key, sC p.ask.val, sC p.ask.range.lo, sC p.ask.range.hi, iC p.ask.most, bC p.ask.back, iC p.code, .fz (.sl 2 ((p.pairs).map ePair))]])]) (by kernel_rfl) ?_
            show mk 43 [(1, .one (.pl [(1, 0)] 0 0)), (3, sV ((⟨#[99, 111, 109, 109, 105, 116]⟩ : ByteArray)))] [(1, [.bx [iC p.kind, iC p.tx.c, iC p.tx.e, iC p.tx.n, iC p.ask.kind, sC p.ask.key, sC p.ask.val, sC p.ask.range.lo, sC p.ask.range.hi, iC p.ask.most, bC p.ask.back, iC p.code, .fz (.sl 2 ((p.pairs).map ePair))]])] = mk 43 [(1, .one (.pl [(1, 0)] 0 0)), (3, sV (bif ((p.kind == 1)) then ((⟨#[98, 101, 103, 105, 110]⟩ : ByteArray)) else (bif ((p.kind == 2)) then ((⟨#[97, 115, 107]⟩ : ByteArray)) else (bif ((p.kind == 3)) then ((⟨#[99, 111, 109, 109, 105, 116]⟩ : ByteArray)) else (bif ((p.kind == 4)) then ((⟨#[97, 98, 111, 114, 116]⟩ : ByteArray)) else ((⟨#[45]⟩ : ByteArray)))))))] [(1, [.bx [iC p.kind, iC p.tx.c, iC p.tx.e, iC p.tx.n, iC p.ask.kind, sC p.ask.key, sC p.ask.val, sC p.ask.range.lo, sC p.ask.range.hi, iC p.ask.most, bC p.ask.back, iC p.code, .fz (.sl 2 ((p.pairs).map ePair))]])]
            first | rfl | (rw [h1, cond_false, h2, cond_false, h3, cond_true]) | (simp only [h1, h2, h3, cond_true, cond_false])
          · have g3 := h3
            try simp only [beq_iff_eq, beq_eq_false_iff_ne] at g3
            refine a_seq ?_
            refine a_run [1, 3, 15] tyOK (st1 := mk 43 [(1, .one (.pl [(1, 0)] 0 0)), (3, sV ((⟨#[45]⟩ : ByteArray))), (15, bV ((p.kind == 4)))] [(1, [.bx [iC p.kind, iC p.tx.c, iC p.tx.e, iC p.tx.n, iC p.ask.kind, sC p.ask.key, sC p.ask.val, sC p.ask.range.lo, sC p.ask.range.hi, iC p.ask.most, bC p.ask.back, iC p.code, .fz (.sl 2 ((p.pairs).map ePair))]])]) (by kernel_rfl) ?_
            refine a_cond (b := (p.kind == 4)) (by kernel_rfl) (fun h4 => ?_) (fun h4 => ?_)
            · have g4 := h4
              try simp only [beq_iff_eq, beq_eq_false_iff_ne] at g4
              refine a_run [1, 3] tyOK (st1 := mk 43 [(1, .one (.pl [(1, 0)] 0 0)), (3, sV ((⟨#[97, 98, 111, 114, 116]⟩ : ByteArray)))] [(1, [.bx [iC p.kind, iC p.tx.c, iC p.tx.e, iC p.tx.n, iC p.ask.kind, sC p.ask.key, sC p.ask.val, sC p.ask.range.lo, sC p.ask.range.hi, iC p.ask.most, bC p.ask.back, iC p.code, .fz (.sl 2 ((p.pairs).map ePair))]])]) (by kernel_rfl) ?_
              show mk 43 [(1, .one (.pl [(1, 0)] 0 0)), (3, sV ((⟨#[97, 98, 111, 114, 116]⟩ : ByteArray)))] [(1, [.bx [iC p.kind, iC p.tx.c, iC p.tx.e, iC p.tx.n, iC p.ask.kind, sC p.ask.key, sC p.ask.val, sC p.ask.range.lo, sC p.ask.range.hi, iC p.ask.most, bC p.ask.back, iC p.code, .fz (.sl 2 ((p.pairs).map ePair))]])] = mk 43 [(1, .one (.pl [(1, 0)] 0 0)), (3, sV (bif ((p.kind == 1)) then ((⟨#[98, 101, 103, 105, 110]⟩ : ByteArray)) else (bif ((p.kind == 2)) then ((⟨#[97, 115, 107]⟩ : ByteArray)) else (bif ((p.kind == 3)) then ((⟨#[99, 111, 109, 109, 105, 116]⟩ : ByteArray)) else (bif ((p.kind == 4)) then ((⟨#[97, 98, 111, 114, 116]⟩ : ByteArray)) else ((⟨#[45]⟩ : ByteArray)))))))] [(1, [.bx [iC p.kind, iC p.tx.c, iC p.tx.e, iC p.tx.n, iC p.ask.kind, sC p.ask.key, sC p.ask.val, sC p.ask.range.lo, sC p.ask.range.hi, iC p.ask.most, bC p.ask.back, iC p.code, .fz (.sl 2 ((p.pairs).map ePair))]])]
              first | rfl | (rw [h1, cond_false, h2, cond_false, h3, cond_false, h4, cond_true]) | (simp only [h1, h2, h3, h4, cond_true, cond_false])
            · have g4 := h4
              try simp only [beq_iff_eq, beq_eq_false_iff_ne] at g4
              refine a_keepTo [1, 3] (st1 := mk 43 [(1, .one (.pl [(1, 0)] 0 0)), (3, sV ((⟨#[45]⟩ : ByteArray)))] [(1, [.bx [iC p.kind, iC p.tx.c, iC p.tx.e, iC p.tx.n, iC p.ask.kind, sC p.ask.key, sC p.ask.val, sC p.ask.range.lo, sC p.ask.range.hi, iC p.ask.most, bC p.ask.back, iC p.code, .fz (.sl 2 ((p.pairs).map ePair))]])]) (by kernel_rfl) ?_
              refine a_skip ?_
              show mk 43 [(1, .one (.pl [(1, 0)] 0 0)), (3, sV ((⟨#[45]⟩ : ByteArray)))] [(1, [.bx [iC p.kind, iC p.tx.c, iC p.tx.e, iC p.tx.n, iC p.ask.kind, sC p.ask.key, sC p.ask.val, sC p.ask.range.lo, sC p.ask.range.hi, iC p.ask.most, bC p.ask.back, iC p.code, .fz (.sl 2 ((p.pairs).map ePair))]])] = mk 43 [(1, .one (.pl [(1, 0)] 0 0)), (3, sV (bif ((p.kind == 1)) then ((⟨#[98, 101, 103, 105, 110]⟩ : ByteArray)) else (bif ((p.kind == 2)) then ((⟨#[97, 115, 107]⟩ : ByteArray)) else (bif ((p.kind == 3)) then ((⟨#[99, 111, 109, 109, 105, 116]⟩ : ByteArray)) else (bif ((p.kind == 4)) then ((⟨#[97, 98, 111, 114, 116]⟩ : ByteArray)) else ((⟨#[45]⟩ : ByteArray)))))))] [(1, [.bx [iC p.kind, iC p.tx.c, iC p.tx.e, iC p.tx.n, iC p.ask.kind, sC p.ask.key, sC p.ask.val, sC p.ask.range.lo, sC p.ask.range.hi, iC p.ask.most, bC p.ask.back, iC p.code, .fz (.sl 2 ((p.pairs).map ePair))]])]
              first | rfl | (rw [h1, cond_false, h2, cond_false, h3, cond_false, h4, cond_false]) | (simp only [h1, h2, h3, h4, cond_true, cond_false])
    refine a_seq ?_
    refine a_mid (mk 43 [(1, .one (.pl [(1, 0)] 0 0)), (4, sV (((((orDashI (txText p.tx)) ++ ((⟨#[32]⟩ : ByteArray))) ++ (bif ((p.kind == 1)) then ((⟨#[98, 101, 103, 105, 110]⟩ : ByteArray)) else (bif ((p.kind == 2)) then ((⟨#[97, 115, 107]⟩ : ByteArray)) else (bif ((p.kind == 3)) then ((⟨#[99, 111, 109, 109, 105, 116]⟩ : ByteArray)) else (bif ((p.kind == 4)) then ((⟨#[97, 98, 111, 114, 116]⟩ : ByteArray)) else ((⟨#[45]⟩ : ByteArray))))))) ++ ((⟨#[32]⟩ : ByteArray))) ++ (numText p.code)))] [(1, [.bx [iC p.kind, iC p.tx.c, iC p.tx.e, iC p.tx.n, iC p.ask.kind, sC p.ask.key, sC p.ask.val, sC p.ask.range.lo, sC p.ask.range.hi, iC p.ask.most, bC p.ask.back, iC p.code, .fz (.sl 2 ((p.pairs).map ePair))]])]) ?_ ?_
    · refine a_drawn (n := 13) [] (by kernel_rfl) (by kernel_rfl) ?_
      refine aa_take (fuel := 8) (listed' := #[true, true, false, false, false, true, false, false, true, true, false, false, false]) (st' := mk 43 [(1, .one (.pl [(1, 0)] 0 0)), (18, .agg [.c (iC p.tx.c), .c (iC p.tx.e), .c (iC p.tx.n)]), (22, sV (bif ((p.kind == 1)) then ((⟨#[98, 101, 103, 105, 110]⟩ : ByteArray)) else (bif ((p.kind == 2)) then ((⟨#[97, 115, 107]⟩ : ByteArray)) else (bif ((p.kind == 3)) then ((⟨#[99, 111, 109, 109, 105, 116]⟩ : ByteArray)) else (bif ((p.kind == 4)) then ((⟨#[97, 98, 111, 114, 116]⟩ : ByteArray)) else ((⟨#[45]⟩ : ByteArray))))))), (26, iV p.code)] [(1, [.bx [iC p.kind, iC p.tx.c, iC p.tx.e, iC p.tx.n, iC p.ask.kind, sC p.ask.key, sC p.ask.val, sC p.ask.range.lo, sC p.ask.range.hi, iC p.ask.most, bC p.ask.back, iC p.code, .fz (.sl 2 ((p.pairs).map ePair))]])]) [0, 1, 5, 8, 9] [1, 18, 22, 26] tyOK (by kernel_rfl) (by kernel_rfl) (by kernel_rfl) ?_
      refine aa_all [2] (by kernel_rfl) rfl ?_
      refine aa_cons ?_ aa_nil
      refine aone_enter (listed' := #[true, true, true, false, false, true, false, false, true, true, false, false, false]) (f := 53) (d := 19) (A := [.agg [.c (iC p.tx.c), .c (iC p.tx.e), .c (iC p.tx.n)]]) (st1 := mk 43 [(1, .one (.pl [(1, 0)] 0 0)), (19, sV (txText p.tx)), (22, sV (bif ((p.kind == 1)) then ((⟨#[98, 101, 103, 105, 110]⟩ : ByteArray)) else (bif ((p.kind == 2)) then ((⟨#[97, 115, 107]⟩ : ByteArray)) else (bif ((p.kind == 3)) then ((⟨#[99, 111, 109, 109, 105, 116]⟩ : ByteArray)) else (bif ((p.kind == 4)) then ((⟨#[97, 98, 111, 114, 116]⟩ : ByteArray)) else ((⟨#[45]⟩ : ByteArray))))))), (26, iV p.code)] [(1, [.bx [iC p.kind, iC p.tx.c, iC p.tx.e, iC p.tx.n, iC p.ask.kind, sC p.ask.key, sC p.ask.val, sC p.ask.range.lo, sC p.ask.range.hi, iC p.ask.most, bC p.ask.back, iC p.code, .fz (.sl 2 ((p.pairs).map ePair))]])]) [1, 19, 22, 26] (okTxTextI p.tx) Try.call53 (by kernel_rfl) (by kernel_rfl) (by kernel_rfl) (by kernel_rfl) ?_
      refine aa_all [3] (by kernel_rfl) rfl ?_
      refine aa_cons ?_ aa_nil
      refine aone_enter (listed' := #[true, true, true, true, false, true, false, false, true, true, false, false, false]) (f := 52) (d := 20) (A := [sV (txText p.tx)]) (st1 := mk 43 [(1, .one (.pl [(1, 0)] 0 0)), (20, sV (orDashI (txText p.tx))), (22, sV (bif ((p.kind == 1)) then ((⟨#[98, 101, 103, 105, 110]⟩ : ByteArray)) else (bif ((p.kind == 2)) then ((⟨#[97, 115, 107]⟩ : ByteArray)) else (bif ((p.kind == 3)) then ((⟨#[99, 111, 109, 109, 105, 116]⟩ : ByteArray)) else (bif ((p.kind == 4)) then ((⟨#[97, 98, 111, 114, 116]⟩ : ByteArray)) else ((⟨#[45]⟩ : ByteArray))))))), (26, iV p.code)] [(1, [.bx [iC p.kind, iC p.tx.c, iC p.tx.e, iC p.tx.n, iC p.ask.kind, sC p.ask.key, sC p.ask.val, sC p.ask.range.lo, sC p.ask.range.hi, iC p.ask.most, bC p.ask.back, iC p.code, .fz (.sl 2 ((p.pairs).map ePair))]])]) [1, 20, 22, 26] (ok52 (txText p.tx)) Try.call52 (by kernel_rfl) (by kernel_rfl) (by kernel_rfl) (by kernel_rfl) ?_
      refine aa_q (i := 4) (d := 21) (c := ((orDashI (txText p.tx)).size + ((⟨#[32]⟩ : ByteArray)).size ≤ 140737488355328)) (tv := sV ((orDashI (txText p.tx)) ++ ((⟨#[32]⟩ : ByteArray)))) (listed' := #[true, true, true, true, true, true, false, false, true, true, false, false, false]) (st1 := mk 43 [(1, .one (.pl [(1, 0)] 0 0)), (21, sV ((orDashI (txText p.tx)) ++ ((⟨#[32]⟩ : ByteArray)))), (22, sV (bif ((p.kind == 1)) then ((⟨#[98, 101, 103, 105, 110]⟩ : ByteArray)) else (bif ((p.kind == 2)) then ((⟨#[97, 115, 107]⟩ : ByteArray)) else (bif ((p.kind == 3)) then ((⟨#[99, 111, 109, 109, 105, 116]⟩ : ByteArray)) else (bif ((p.kind == 4)) then ((⟨#[97, 98, 111, 114, 116]⟩ : ByteArray)) else ((⟨#[45]⟩ : ByteArray))))))), (26, iV p.code)] [(1, [.bx [iC p.kind, iC p.tx.c, iC p.tx.e, iC p.tx.n, iC p.ask.kind, sC p.ask.key, sC p.ask.val, sC p.ask.range.lo, sC p.ask.range.hi, iC p.ask.most, bC p.ask.back, iC p.code, .fz (.sl 2 ((p.pairs).map ePair))]])]) [1, 21, 22, 26] tyOK (by kernel_rfl) (by kernel_rfl) (by first | (have h1 := dashI_size p.tx; have h2 := numText_size p.code; have h3 := kindI_size p.kind; simp only [ByteArray.size_append, mv_size_mk, List.size_toArray, List.length_cons, List.length_nil]; omega) | (have ho := hS; have h1 := quote_size x1.k; have h2 := quote_size x1.v; simp only [ByteArray.size_append, mv_size_mk, List.size_toArray, List.length_cons, List.length_nil, pairTextI]; omega)) (by kernel_rfl) (by kernel_rfl) (by kernel_rfl) ?_
      refine aa_q (i := 6) (d := 23) (c := (((orDashI (txText p.tx)) ++ ((⟨#[32]⟩ : ByteArray))).size + (bif ((p.kind == 1)) then ((⟨#[98, 101, 103, 105, 110]⟩ : ByteArray)) else (bif ((p.kind == 2)) then ((⟨#[97, 115, 107]⟩ : ByteArray)) else (bif ((p.kind == 3)) then ((⟨#[99, 111, 109, 109, 105, 116]⟩ : ByteArray)) else (bif ((p.kind == 4)) then ((⟨#[97, 98, 111, 114, 116]⟩ : ByteArray)) else ((⟨#[45]⟩ : ByteArray)))))).size ≤ 140737488355328)) (tv := sV (((orDashI (txText p.tx)) ++ ((⟨#[32]⟩ : ByteArray))) ++ (bif ((p.kind == 1)) then ((⟨#[98, 101, 103, 105, 110]⟩ : ByteArray)) else (bif ((p.kind == 2)) then ((⟨#[97, 115, 107]⟩ : ByteArray)) else (bif ((p.kind == 3)) then ((⟨#[99, 111, 109, 109, 105, 116]⟩ : ByteArray)) else (bif ((p.kind == 4)) then ((⟨#[97, 98, 111, 114, 116]⟩ : ByteArray)) else ((⟨#[45]⟩ : ByteArray)))))))) (listed' := #[true, true, true, true, true, true, true, false, true, true, false, false, false]) (st1 := mk 43 [(1, .one (.pl [(1, 0)] 0 0)), (23, sV (((orDashI (txText p.tx)) ++ ((⟨#[32]⟩ : ByteArray))) ++ (bif ((p.kind == 1)) then ((⟨#[98, 101, 103, 105, 110]⟩ : ByteArray)) else (bif ((p.kind == 2)) then ((⟨#[97, 115, 107]⟩ : ByteArray)) else (bif ((p.kind == 3)) then ((⟨#[99, 111, 109, 109, 105, 116]⟩ : ByteArray)) else (bif ((p.kind == 4)) then ((⟨#[97, 98, 111, 114, 116]⟩ : ByteArray)) else ((⟨#[45]⟩ : ByteArray)))))))), (26, iV p.code)] [(1, [.bx [iC p.kind, iC p.tx.c, iC p.tx.e, iC p.tx.n, iC p.ask.kind, sC p.ask.key, sC p.ask.val, sC p.ask.range.lo, sC p.ask.range.hi, iC p.ask.most, bC p.ask.back, iC p.code, .fz (.sl 2 ((p.pairs).map ePair))]])]) [1, 23, 26] tyOK (by kernel_rfl) (by kernel_rfl) (by first | (have h1 := dashI_size p.tx; have h2 := numText_size p.code; have h3 := kindI_size p.kind; simp only [ByteArray.size_append, mv_size_mk, List.size_toArray, List.length_cons, List.length_nil]; omega) | (have ho := hS; have h1 := quote_size x1.k; have h2 := quote_size x1.v; simp only [ByteArray.size_append, mv_size_mk, List.size_toArray, List.length_cons, List.length_nil, pairTextI]; omega)) (by kernel_rfl) (by kernel_rfl) (by kernel_rfl) ?_
      refine aa_q (i := 7) (d := 24) (c := ((((orDashI (txText p.tx)) ++ ((⟨#[32]⟩ : ByteArray))) ++ (bif ((p.kind == 1)) then ((⟨#[98, 101, 103, 105, 110]⟩ : ByteArray)) else (bif ((p.kind == 2)) then ((⟨#[97, 115, 107]⟩ : ByteArray)) else (bif ((p.kind == 3)) then ((⟨#[99, 111, 109, 109, 105, 116]⟩ : ByteArray)) else (bif ((p.kind == 4)) then ((⟨#[97, 98, 111, 114, 116]⟩ : ByteArray)) else ((⟨#[45]⟩ : ByteArray))))))).size + ((⟨#[32]⟩ : ByteArray)).size ≤ 140737488355328)) (tv := sV ((((orDashI (txText p.tx)) ++ ((⟨#[32]⟩ : ByteArray))) ++ (bif ((p.kind == 1)) then ((⟨#[98, 101, 103, 105, 110]⟩ : ByteArray)) else (bif ((p.kind == 2)) then ((⟨#[97, 115, 107]⟩ : ByteArray)) else (bif ((p.kind == 3)) then ((⟨#[99, 111, 109, 109, 105, 116]⟩ : ByteArray)) else (bif ((p.kind == 4)) then ((⟨#[97, 98, 111, 114, 116]⟩ : ByteArray)) else ((⟨#[45]⟩ : ByteArray))))))) ++ ((⟨#[32]⟩ : ByteArray)))) (listed' := #[true, true, true, true, true, true, true, true, true, true, false, false, false]) (st1 := mk 43 [(1, .one (.pl [(1, 0)] 0 0)), (24, sV ((((orDashI (txText p.tx)) ++ ((⟨#[32]⟩ : ByteArray))) ++ (bif ((p.kind == 1)) then ((⟨#[98, 101, 103, 105, 110]⟩ : ByteArray)) else (bif ((p.kind == 2)) then ((⟨#[97, 115, 107]⟩ : ByteArray)) else (bif ((p.kind == 3)) then ((⟨#[99, 111, 109, 109, 105, 116]⟩ : ByteArray)) else (bif ((p.kind == 4)) then ((⟨#[97, 98, 111, 114, 116]⟩ : ByteArray)) else ((⟨#[45]⟩ : ByteArray))))))) ++ ((⟨#[32]⟩ : ByteArray)))), (26, iV p.code)] [(1, [.bx [iC p.kind, iC p.tx.c, iC p.tx.e, iC p.tx.n, iC p.ask.kind, sC p.ask.key, sC p.ask.val, sC p.ask.range.lo, sC p.ask.range.hi, iC p.ask.most, bC p.ask.back, iC p.code, .fz (.sl 2 ((p.pairs).map ePair))]])]) [1, 24, 26] tyOK (by kernel_rfl) (by kernel_rfl) (by first | (have h1 := dashI_size p.tx; have h2 := numText_size p.code; have h3 := kindI_size p.kind; simp only [ByteArray.size_append, mv_size_mk, List.size_toArray, List.length_cons, List.length_nil]; omega) | (have ho := hS; have h1 := quote_size x1.k; have h2 := quote_size x1.v; simp only [ByteArray.size_append, mv_size_mk, List.size_toArray, List.length_cons, List.length_nil, pairTextI]; omega)) (by kernel_rfl) (by kernel_rfl) (by kernel_rfl) ?_
      refine aa_all [10] (by kernel_rfl) rfl ?_
      refine aa_cons ?_ aa_nil
      refine aone_enter (listed' := #[true, true, true, true, true, true, true, true, true, true, true, false, false]) (f := 54) (d := 27) (A := [iV p.code]) (st1 := mk 43 [(1, .one (.pl [(1, 0)] 0 0)), (24, sV ((((orDashI (txText p.tx)) ++ ((⟨#[32]⟩ : ByteArray))) ++ (bif ((p.kind == 1)) then ((⟨#[98, 101, 103, 105, 110]⟩ : ByteArray)) else (bif ((p.kind == 2)) then ((⟨#[97, 115, 107]⟩ : ByteArray)) else (bif ((p.kind == 3)) then ((⟨#[99, 111, 109, 109, 105, 116]⟩ : ByteArray)) else (bif ((p.kind == 4)) then ((⟨#[97, 98, 111, 114, 116]⟩ : ByteArray)) else ((⟨#[45]⟩ : ByteArray))))))) ++ ((⟨#[32]⟩ : ByteArray)))), (27, sV (numText p.code))] [(1, [.bx [iC p.kind, iC p.tx.c, iC p.tx.e, iC p.tx.n, iC p.ask.kind, sC p.ask.key, sC p.ask.val, sC p.ask.range.lo, sC p.ask.range.hi, iC p.ask.most, bC p.ask.back, iC p.code, .fz (.sl 2 ((p.pairs).map ePair))]])]) [1, 24, 27] (okNumTextI p.code) Try.call54 (by kernel_rfl) (by kernel_rfl) (by kernel_rfl) (by kernel_rfl) ?_
      refine aa_q (i := 11) (d := 28) (c := (((((orDashI (txText p.tx)) ++ ((⟨#[32]⟩ : ByteArray))) ++ (bif ((p.kind == 1)) then ((⟨#[98, 101, 103, 105, 110]⟩ : ByteArray)) else (bif ((p.kind == 2)) then ((⟨#[97, 115, 107]⟩ : ByteArray)) else (bif ((p.kind == 3)) then ((⟨#[99, 111, 109, 109, 105, 116]⟩ : ByteArray)) else (bif ((p.kind == 4)) then ((⟨#[97, 98, 111, 114, 116]⟩ : ByteArray)) else ((⟨#[45]⟩ : ByteArray))))))) ++ ((⟨#[32]⟩ : ByteArray))).size + (numText p.code).size ≤ 140737488355328)) (tv := sV (((((orDashI (txText p.tx)) ++ ((⟨#[32]⟩ : ByteArray))) ++ (bif ((p.kind == 1)) then ((⟨#[98, 101, 103, 105, 110]⟩ : ByteArray)) else (bif ((p.kind == 2)) then ((⟨#[97, 115, 107]⟩ : ByteArray)) else (bif ((p.kind == 3)) then ((⟨#[99, 111, 109, 109, 105, 116]⟩ : ByteArray)) else (bif ((p.kind == 4)) then ((⟨#[97, 98, 111, 114, 116]⟩ : ByteArray)) else ((⟨#[45]⟩ : ByteArray))))))) ++ ((⟨#[32]⟩ : ByteArray))) ++ (numText p.code))) (listed' := #[true, true, true, true, true, true, true, true, true, true, true, true, false]) (st1 := mk 43 [(1, .one (.pl [(1, 0)] 0 0)), (28, sV (((((orDashI (txText p.tx)) ++ ((⟨#[32]⟩ : ByteArray))) ++ (bif ((p.kind == 1)) then ((⟨#[98, 101, 103, 105, 110]⟩ : ByteArray)) else (bif ((p.kind == 2)) then ((⟨#[97, 115, 107]⟩ : ByteArray)) else (bif ((p.kind == 3)) then ((⟨#[99, 111, 109, 109, 105, 116]⟩ : ByteArray)) else (bif ((p.kind == 4)) then ((⟨#[97, 98, 111, 114, 116]⟩ : ByteArray)) else ((⟨#[45]⟩ : ByteArray))))))) ++ ((⟨#[32]⟩ : ByteArray))) ++ (numText p.code)))] [(1, [.bx [iC p.kind, iC p.tx.c, iC p.tx.e, iC p.tx.n, iC p.ask.kind, sC p.ask.key, sC p.ask.val, sC p.ask.range.lo, sC p.ask.range.hi, iC p.ask.most, bC p.ask.back, iC p.code, .fz (.sl 2 ((p.pairs).map ePair))]])]) [1, 28] tyOK (by kernel_rfl) (by kernel_rfl) (by first | (have h1 := dashI_size p.tx; have h2 := numText_size p.code; have h3 := kindI_size p.kind; simp only [ByteArray.size_append, mv_size_mk, List.size_toArray, List.length_cons, List.length_nil]; omega) | (have ho := hS; have h1 := quote_size x1.k; have h2 := quote_size x1.v; simp only [ByteArray.size_append, mv_size_mk, List.size_toArray, List.length_cons, List.length_nil, pairTextI]; omega)) (by kernel_rfl) (by kernel_rfl) (by kernel_rfl) ?_
      refine aa_take (fuel := 0) (listed' := #[true, true, true, true, true, true, true, true, true, true, true, true, true]) (st' := mk 43 [(1, .one (.pl [(1, 0)] 0 0)), (4, sV (((((orDashI (txText p.tx)) ++ ((⟨#[32]⟩ : ByteArray))) ++ (bif ((p.kind == 1)) then ((⟨#[98, 101, 103, 105, 110]⟩ : ByteArray)) else (bif ((p.kind == 2)) then ((⟨#[97, 115, 107]⟩ : ByteArray)) else (bif ((p.kind == 3)) then ((⟨#[99, 111, 109, 109, 105, 116]⟩ : ByteArray)) else (bif ((p.kind == 4)) then ((⟨#[97, 98, 111, 114, 116]⟩ : ByteArray)) else ((⟨#[45]⟩ : ByteArray))))))) ++ ((⟨#[32]⟩ : ByteArray))) ++ (numText p.code)))] [(1, [.bx [iC p.kind, iC p.tx.c, iC p.tx.e, iC p.tx.n, iC p.ask.kind, sC p.ask.key, sC p.ask.val, sC p.ask.range.lo, sC p.ask.range.hi, iC p.ask.most, bC p.ask.back, iC p.code, .fz (.sl 2 ((p.pairs).map ePair))]])]) [12] [1, 4] tyOK (by kernel_rfl) (by kernel_rfl) (by kernel_rfl) ?_
      refine aa_done (by kernel_rfl) ?_
      show _ = _; kernel_rfl
    refine a_seq ?_
    refine a_seq ?_
    refine a_run [4, 30, 31, 32] tyOK (st1 := mk 43 [(4, sV (((((orDashI (txText p.tx)) ++ ((⟨#[32]⟩ : ByteArray))) ++ (bif ((p.kind == 1)) then ((⟨#[98, 101, 103, 105, 110]⟩ : ByteArray)) else (bif ((p.kind == 2)) then ((⟨#[97, 115, 107]⟩ : ByteArray)) else (bif ((p.kind == 3)) then ((⟨#[99, 111, 109, 109, 105, 116]⟩ : ByteArray)) else (bif ((p.kind == 4)) then ((⟨#[97, 98, 111, 114, 116]⟩ : ByteArray)) else ((⟨#[45]⟩ : ByteArray))))))) ++ ((⟨#[32]⟩ : ByteArray))) ++ (numText p.code))), (30, .one (.c (.sl 2 ((p.pairs).map ePair)))), (31, iV (((((p.pairs).map ePair).length : Nat) : Int))), (32, iV 0)] []) (by kernel_rfl) ?_
    refine a_block ?_
    refine a_keep [4, 30, 31, 32] ?_
    refine a_loop (ι := L25_1 p) (fun ⟨k, o, _⟩ => mk 43 [(4, sV o), (30, .one (.c (.sl 2 ((p.pairs).map ePair)))), (31, iV (((((p.pairs).map ePair).length : Nat) : Int))), (32, iV (((k : Nat) : Int)))] []) (fun ⟨k, o, _⟩ => p.pairs.length - k) ⟨0, (headI p), Nat.zero_le _, by have := headS_size p; rw [headI_eq]; omega, by rw [headI_eq]; rfl⟩ (by kernel_rfl) ?_
    rintro ⟨k, o, hI⟩
    obtain ⟨hk, hS, hR⟩ := hI
    show AWp _ _ _ _ (mk 43 [(4, sV o), (30, .one (.c (.sl 2 ((p.pairs).map ePair)))), (31, iV (((((p.pairs).map ePair).length : Nat) : Int))), (32, iV (((k : Nat) : Int)))] [])
    refine a_seq ?_
    refine a_run [4, 30, 31, 32, 33] tyOK (st1 := mk 43 [(4, sV o), (30, .one (.c (.sl 2 ((p.pairs).map ePair)))), (31, iV (((((p.pairs).map ePair).length : Nat) : Int))), (32, iV (((k : Nat) : Int))), (33, bV (decide ((((k : Nat) : Int)) < (((((p.pairs).map ePair).length : Nat) : Int)))))] []) (by kernel_rfl) ?_
    refine a_seq ?_
    refine a_cond (b := decide ((((k : Nat) : Int)) < (((((p.pairs).map ePair).length : Nat) : Int)))) (by kernel_rfl) (fun h5 => ?_) (fun h5 => ?_)
    · have g5 := h5
      try simp only [decide_eq_true_eq, decide_eq_false_iff_not, List.length_map] at g5
      refine a_skip ?_
      refine a_seq ?_
      refine a_block ?_
      refine a_seq ?_
      refine a_ops [0, 1, 2, 3] (by kernel_rfl) ?_
      have p1 : 0 ≤ (((k : Nat) : Int)) ∧ (((k : Nat) : Int)).toNat < (p.pairs).length := by first | omega | (rw [mv_wrap (by omega) (by omega)]; omega)
      obtain ⟨x1, q1⟩ : ∃ x, (p.pairs)[(((k : Nat) : Int)).toNat]? = some x := ⟨_, List.getElem?_eq_getElem p1.2⟩
      have r1 := q1
      try simp only [Int.toNat_natCast] at r1
      refine ao_index (d := 34) (size := 2) (n := ((k : Nat) : Int)) (rows := (p.pairs).map ePair) (st1 := mk 43 [(4, sV o), (30, .one (.c (.sl 2 ((p.pairs).map ePair)))), (31, iV (((((p.pairs).map ePair).length : Nat) : Int))), (32, iV (((k : Nat) : Int))), (34, .one (.fp [sC x1.k, sC x1.v] 0))] []) (ePair x1) [4, 30, 31, 32, 34] tyOK (by kernel_rfl) p1.1 (by rw [List.getElem?_map, q1]; rfl) (by kernel_rfl) (by kernel_rfl) ?_
      refine ao_some [1, 2, 3] [] [4, 6, 30, 31, 32] tyOK (st1 := mk 43 [(4, sV o), (6, .one (.pl [(6, 0)] 0 0)), (30, .one (.c (.sl 2 ((p.pairs).map ePair)))), (31, iV (((((p.pairs).map ePair).length : Nat) : Int))), (32, iV (((k : Nat) : Int)))] [(6, [.bx [sC x1.k, sC x1.v]])]) (by kernel_rfl) ?_
      refine ao_nil ?_
      refine a_ops [0, 1, 2, 3, 4, 5] (by kernel_rfl) ?_
      refine ao_some [0] [1, 2, 3, 4, 5] [6, 30, 31, 32, 36] tyOK (st1 := mk 43 [(6, .one (.pl [(6, 0)] 0 0)), (30, .one (.c (.sl 2 ((p.pairs).map ePair)))), (31, iV (((((p.pairs).map ePair).length : Nat) : Int))), (32, iV (((k : Nat) : Int))), (36, sV o)] [(6, [.bx [sC x1.k, sC x1.v]])]) (by kernel_rfl) ?_
      refine ao_q (d := 37) (c := (o.size + ((⟨#[32]⟩ : ByteArray)).size ≤ 140737488355328)) (tv := sV (o ++ ((⟨#[32]⟩ : ByteArray)))) (st1 := mk 43 [(6, .one (.pl [(6, 0)] 0 0)), (30, .one (.c (.sl 2 ((p.pairs).map ePair)))), (31, iV (((((p.pairs).map ePair).length : Nat) : Int))), (32, iV (((k : Nat) : Int))), (37, sV (o ++ ((⟨#[32]⟩ : ByteArray))))] [(6, [.bx [sC x1.k, sC x1.v]])]) [6, 30, 31, 32, 37] tyOK (by kernel_rfl) (by first | (have h1 := dashI_size p.tx; have h2 := numText_size p.code; have h3 := kindI_size p.kind; simp only [ByteArray.size_append, mv_size_mk, List.size_toArray, List.length_cons, List.length_nil]; omega) | (have ho := hS; have h1 := quote_size x1.k; have h2 := quote_size x1.v; simp only [ByteArray.size_append, mv_size_mk, List.size_toArray, List.length_cons, List.length_nil, pairTextI]; omega)) (by kernel_rfl) ?_
      refine ao_some [2] [3, 4, 5] [30, 31, 32, 37, 38] tyOK (st1 := mk 43 [(30, .one (.c (.sl 2 ((p.pairs).map ePair)))), (31, iV (((((p.pairs).map ePair).length : Nat) : Int))), (32, iV (((k : Nat) : Int))), (37, sV (o ++ ((⟨#[32]⟩ : ByteArray)))), (38, .agg [.c (sC x1.k), .c (sC x1.v)])] []) (by kernel_rfl) ?_
      refine ao_enter (f := 55) (d := 39) (A := [.agg [.c (sC x1.k), .c (sC x1.v)]]) (st1 := mk 43 [(30, .one (.c (.sl 2 ((p.pairs).map ePair)))), (31, iV (((((p.pairs).map ePair).length : Nat) : Int))), (32, iV (((k : Nat) : Int))), (37, sV (o ++ ((⟨#[32]⟩ : ByteArray)))), (39, sV (pairTextI x1))] []) [30, 31, 32, 37, 39] (ok55 x1) Try.call55 (by kernel_rfl) (by kernel_rfl) (by kernel_rfl) ?_
      refine ao_q (d := 40) (c := ((o ++ ((⟨#[32]⟩ : ByteArray))).size + (pairTextI x1).size ≤ 140737488355328)) (tv := sV ((o ++ ((⟨#[32]⟩ : ByteArray))) ++ (pairTextI x1))) (st1 := mk 43 [(30, .one (.c (.sl 2 ((p.pairs).map ePair)))), (31, iV (((((p.pairs).map ePair).length : Nat) : Int))), (32, iV (((k : Nat) : Int))), (40, sV ((o ++ ((⟨#[32]⟩ : ByteArray))) ++ (pairTextI x1)))] []) [30, 31, 32, 40] tyOK (by kernel_rfl) (by first | (have h1 := dashI_size p.tx; have h2 := numText_size p.code; have h3 := kindI_size p.kind; simp only [ByteArray.size_append, mv_size_mk, List.size_toArray, List.length_cons, List.length_nil]; omega) | (have ho := hS; have h1 := quote_size x1.k; have h2 := quote_size x1.v; simp only [ByteArray.size_append, mv_size_mk, List.size_toArray, List.length_cons, List.length_nil, pairTextI]; omega)) (by kernel_rfl) ?_
      refine ao_some [5] [] [4, 30, 31, 32] tyOK (st1 := mk 43 [(4, sV ((o ++ ((⟨#[32]⟩ : ByteArray))) ++ (pairTextI x1))), (30, .one (.c (.sl 2 ((p.pairs).map ePair)))), (31, iV (((((p.pairs).map ePair).length : Nat) : Int))), (32, iV (((k : Nat) : Int)))] []) (by kernel_rfl) ?_
      refine ao_nil ?_
      refine a_run [4, 30, 31, 32] tyOK (st1 := mk 43 [(4, sV ((o ++ ((⟨#[32]⟩ : ByteArray))) ++ (pairTextI x1))), (30, .one (.c (.sl 2 ((p.pairs).map ePair)))), (31, iV (((((p.pairs).map ePair).length : Nat) : Int))), (32, iV (IntKind.wrap .i64 ((((k : Nat) : Int)) + 1)))] []) (by kernel_rfl) ?_
      refine ⟨⟨(k + 1), ((o ++ ⟨#[32]⟩) ++ pairTextI x1), ?_⟩, ?_, ?_⟩
      · exact ⟨by omega, by (have h1 := quote_size x1.k; have h2 := quote_size x1.v; simp only [ByteArray.size_append, mv_size_mk, List.size_toArray, List.length_cons, List.length_nil, pairTextI]; omega), by rw [← hR, drop_of_get r1, pairsL, pairText_eq]⟩
      · exact (show _ = mk 43 [(4, sV ((o ++ ((⟨#[32]⟩ : ByteArray))) ++ (pairTextI x1))), (30, .one (.c (.sl 2 ((p.pairs).map ePair)))), (31, iV (((((p.pairs).map ePair).length : Nat) : Int))), (32, iV (IntKind.wrap .i64 ((((k : Nat) : Int)) + 1)))] [] by kernel_rfl).trans (by rw [mv_wrap (n := (k : Int) + 1) (by omega) (by omega)]; rfl)
      · dsimp only; omega
    · have g5 := h5
      try simp only [decide_eq_true_eq, decide_eq_false_iff_not, List.length_map] at g5
      refine a_exit ?_
      refine a_seq ?_
      refine a_run [2] tyOK (st1 := mk 43 [(2, sV o)] []) (by kernel_rfl) ?_
      refine a_ret ?_
      have e : replyText p = o := by
          rw [replyText, ← hR, List.drop_eq_nil_of_le (by omega), pairsL]
      exact end_eq (res' := sV o) (by kernel_rfl) (by rw [e])



end Go.Proofs.Ytijmnochaamllaa
