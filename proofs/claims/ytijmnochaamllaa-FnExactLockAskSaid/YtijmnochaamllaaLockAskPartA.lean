/- What functions of the given program compute, each proved once, for the law that is proved in YtijmnochaamllaaLockAsk: whatever their arguments, under the conditions that each theorem names. -/
import Derived.Test.YtijmnochaamllaaProg
import Derived.Test.YtijmnochaamllaaMvIV
set_option linter.unusedVariables false
set_option linter.unusedSimpArgs false
namespace Go.Proofs.Ytijmnochaamllaa
open Go.Mv Go.RowKit
theorem eqOK36 : EqOK Try.prog 36 [.int .i64, .int .i64, .int .i64] := by
  refine ⟨Try.eqGuardType36, fun w xs ys b h => ?_⟩
  obtain ⟨x1, xs1, y1, ys1, u1, v1, rfl, rfl, h1, k1, rfl⟩ := eqVs_cons h
  obtain ⟨x2, xs2, y2, ys2, u2, v2, rfl, rfl, h2, k2, rfl⟩ := eqVs_cons k1
  obtain ⟨x3, xs3, y3, ys3, u3, v3, rfl, rfl, h3, k3, rfl⟩ := eqVs_cons k2
  obtain ⟨rfl, rfl, rfl⟩ := eqVs_nil k3
  obtain ⟨a1, b1, rfl, rfl, rfl⟩ := eqV_int h1
  obtain ⟨a2, b2, rfl, rfl, rfl⟩ := eqV_int h2
  obtain ⟨a3, b3, rfl, rfl, rfl⟩ := eqV_int h3
  simp only [Op.equal, Op.maxDepth]
  rw [run_equalIn_struct w _ 36 _ _ (by kernel_rfl) (by kernel_rfl), show (Try.prog.fieldsOf 36).toList = [⟨ "C", 3, 0, false, "", "", 0⟩, ⟨ "E", 3, 1, false, "", "", 8⟩, ⟨ "N", 3, 2, false, "", "", 16⟩] by kernel_rfl]
  by_cases c1 : a1 = b1 <;> by_cases c2 : a2 = b2 <;> by_cases c3 : a3 = b3 <;> simp [Op.eqFields, part, Try.isAgg3, run_equalIn_int w _ 3 _ _ _ _ Try.underlying3, c1, c2, c3]
noncomputable def tyL : List (Nat × TInfo) := [
  (3, { k := .int .i64, size := 1, bytes := 8, zero := .int .i64 0 }),
  (4, { k := .bool, size := 1, bytes := 1, zero := .bool false }),
  (5, { k := .int .u8, size := 1, bytes := 1, zero := .int .u8 0 }),
  (9, { k := .string, size := 1, bytes := 16, zero := .string ⟨#[]⟩ }),
  (31, { k := .struct [(0, 3), (1, 3), (2, 3)], size := 3, bytes := 24, zero := .agg #[.int .i64 0, .int .i64 0, .int .i64 0] }),
  (36, { k := .struct [(0, 3), (1, 3), (2, 3)], size := 3, bytes := 24, zero := .agg #[.int .i64 0, .int .i64 0, .int .i64 0], eqs := some [.int .i64, .int .i64, .int .i64] }),
  (41, { k := .struct [(0, 9), (1, 9)], size := 2, bytes := 32, zero := .agg #[.string ⟨#[]⟩, .string ⟨#[]⟩] }),
  (48, { k := .struct [(0, 9), (1, 9)], size := 2, bytes := 32, zero := .agg #[.string ⟨#[]⟩, .string ⟨#[]⟩] }),
  (56, { k := .slice 60, size := 1, bytes := 24, zero := .slice none 0 0, szs := [6] }),
  (58, { k := .struct [(0, 56), (1, 56)], size := 2, bytes := 48, zero := .agg #[.slice none 0 0, .slice none 0 0], szs := [6, 6] }),
  (60, { k := .struct [(0, 31), (3, 41), (5, 4)], size := 6, bytes := 64, zero := .agg #[.int .i64 0, .int .i64 0, .int .i64 0, .string ⟨#[]⟩, .string ⟨#[]⟩, .bool false] }),
  (63, { k := .slice 70, size := 1, bytes := 24, zero := .slice none 0 0, szs := [6] }),
  (65, { k := .struct [(0, 63), (1, 63)], size := 2, bytes := 48, zero := .agg #[.slice none 0 0, .slice none 0 0], szs := [6, 6] }),
  (70, { k := .struct [(0, 36), (3, 48), (5, 4)], size := 6, bytes := 64, zero := .agg #[.int .i64 0, .int .i64 0, .int .i64 0, .string ⟨#[]⟩, .string ⟨#[]⟩, .bool false] }),
  (118, { k := .slice 5, size := 1, bytes := 24, zero := .slice none 0 0, szs := [1] }),
  (134, { k := .slice 63, size := 1, bytes := 24, zero := .slice none 0 0, szs := [1] })]
noncomputable abbrev Ty := tyOf tyL
theorem tyOK : TyOK Try.prog Ty := tyOf_ok (by
  simp only [tyL, List.forall_mem_cons]
  refine ⟨⟨Try.underlying3, ⟨Try.t3, by kernel_rfl, rfl, rfl, rfl⟩, nofun⟩, ?_⟩
  refine ⟨⟨Try.underlying4, ⟨Try.t4, by kernel_rfl, rfl, rfl, rfl⟩, nofun⟩, ?_⟩
  refine ⟨⟨Try.underlying5, ⟨Try.t5, by kernel_rfl, rfl, rfl, rfl⟩, nofun⟩, ?_⟩
  refine ⟨⟨Try.underlying9, ⟨Try.t9, by kernel_rfl, rfl, rfl, rfl⟩, nofun⟩, ?_⟩
  refine ⟨⟨⟨_, Try.underlying31, rfl⟩, ⟨Try.t31, by kernel_rfl, rfl, rfl, rfl⟩, nofun⟩, ?_⟩
  refine ⟨⟨⟨_, Try.underlying36, rfl⟩, ⟨Try.t36, by kernel_rfl, rfl, rfl, rfl⟩, fun ks h => by cases h; exact eqOK36⟩, ?_⟩
  refine ⟨⟨⟨_, Try.underlying41, rfl⟩, ⟨Try.t41, by kernel_rfl, rfl, rfl, rfl⟩, nofun⟩, ?_⟩
  refine ⟨⟨⟨_, Try.underlying48, rfl⟩, ⟨Try.t48, by kernel_rfl, rfl, rfl, rfl⟩, nofun⟩, ?_⟩
  refine ⟨⟨Try.underlying56, ⟨Try.t56, by kernel_rfl, rfl, rfl, rfl⟩, nofun⟩, ?_⟩
  refine ⟨⟨⟨_, Try.underlying58, rfl⟩, ⟨Try.t58, by kernel_rfl, rfl, rfl, rfl⟩, nofun⟩, ?_⟩
  refine ⟨⟨⟨_, Try.underlying60, rfl⟩, ⟨Try.t60, by kernel_rfl, rfl, rfl, rfl⟩, nofun⟩, ?_⟩
  refine ⟨⟨Try.underlying63, ⟨Try.t63, by kernel_rfl, rfl, rfl, rfl⟩, nofun⟩, ?_⟩
  refine ⟨⟨⟨_, Try.underlying65, rfl⟩, ⟨Try.t65, by kernel_rfl, rfl, rfl, rfl⟩, nofun⟩, ?_⟩
  refine ⟨⟨⟨_, Try.underlying70, rfl⟩, ⟨Try.t70, by kernel_rfl, rfl, rfl, rfl⟩, nofun⟩, ?_⟩
  refine ⟨⟨Try.underlying118, ⟨Try.t118, by kernel_rfl, rfl, rfl, rfl⟩, nofun⟩, ?_⟩
  refine ⟨⟨Try.underlying134, ⟨Try.t134, by kernel_rfl, rfl, rfl, rfl⟩, nofun⟩, ?_⟩
  exact nofun)
def eStr (s : ByteArray) : List C := [sC s]
def eInt (n : Int) : List C := [iC n]
structure Range where
  lo : ByteArray
  hi : ByteArray
instance : Inhabited Range := ⟨⟨⟨#[]⟩, ⟨#[]⟩⟩⟩
def eRange (x : Range) : List C := [sC x.lo, sC x.hi]
structure Tx where
  c : Int
  e : Int
  n : Int
instance : Inhabited Tx := ⟨⟨0, 0, 0⟩⟩
def eTx (x : Tx) : List C := [iC x.c, iC x.e, iC x.n]
structure Lock where
  tx : Tx
  range : Range
  ex : Bool
instance : Inhabited Lock := ⟨⟨default, default, false⟩⟩
def eLock (x : Lock) : List C := [iC x.tx.c, iC x.tx.e, iC x.tx.n, sC x.range.lo, sC x.range.hi, bC x.ex]
structure Locks where
  held : List Lock
  wait : List Lock
instance : Inhabited Locks := ⟨⟨[], []⟩⟩
def eLocks (x : Locks) : List C := [.sl 6 ((x.held).map eLock), .sl 6 ((x.wait).map eLock)]
theorem cl_Str (s : ByteArray) : ∀ c ∈ eStr s, ∃ u, c = .v u := by simp [eStr, sC]
theorem cl_Int (n : Int) : ∀ c ∈ eInt n, ∃ u, c = .v u := by simp [eInt, iC]
theorem cl_Range (x : Range) : ∀ c ∈ eRange x, ∃ u, c = .v u := by simp [eRange, iC, sC, bC]
theorem cl_Tx (x : Tx) : ∀ c ∈ eTx x, ∃ u, c = .v u := by simp [eTx, iC, sC, bC]
theorem cl_Lock (x : Lock) : ∀ c ∈ eLock x, ∃ u, c = .v u := by simp [eLock, iC, sC, bC]


end Go.Proofs.Ytijmnochaamllaa
namespace Go.Proofs.Ytijmnochaamllaa
open Go.Mv Go.RowKit
noncomputable def w_szRange (p0 : Range) (p1 : Int) : Int :=
 bif (decide ((IntKind.wrap .i64 (p1 - ((p0.lo.size : Int)))) < 0)) then
 (-1)
 else
 (bif (decide ((IntKind.wrap .i64 ((IntKind.wrap .i64 (p1 - ((p0.lo.size : Int)))) - ((p0.hi.size : Int)))) < 0)) then
 (-1)
 else
 (IntKind.wrap .i64 ((IntKind.wrap .i64 (p1 - ((p0.lo.size : Int)))) - ((p0.hi.size : Int)))))
set_option maxHeartbeats 4000000 in
/-- laws.szRange -/
theorem k_w_szRange (p0 : Range) (p1 : Int) (v : Int) (h : w_szRange p0 p1 = v) : CallOK Try.prog 59 [.agg [.c (sC p0.lo), .c (sC p0.hi)], iV p1] (iV v) [] :=
  callOK tyOK Try.func59 rfl fun w S hS => by
    unfold w_szRange at h
    refine a_seq ?_
    refine a_run [1, 2] tyOK (st1 := mk 20 [(1, iV p1), (2, .one (.pl [(2, 0)] 0 0))] [(2, [.bx [sC p0.lo, sC p0.hi]])]) (by kernel_rfl) ?_
    refine a_seq ?_
    refine a_run [1, 2] tyOK (st1 := mk 20 [(1, iV (IntKind.wrap .i64 (p1 - ((p0.lo.size : Int))))), (2, .one (.pl [(2, 0)] 0 0))] [(2, [.bx [sC p0.lo, sC p0.hi]])]) (by kernel_rfl) ?_
    refine a_seq ?_
    refine a_seq ?_
    refine a_run [1, 2, 11] tyOK (st1 := mk 20 [(1, iV (IntKind.wrap .i64 (p1 - ((p0.lo.size : Int))))), (2, .one (.pl [(2, 0)] 0 0)), (11, bV (decide ((IntKind.wrap .i64 (p1 - ((p0.lo.size : Int)))) < 0)))] [(2, [.bx [sC p0.lo, sC p0.hi]])]) (by kernel_rfl) ?_
    refine a_cond (b := decide ((IntKind.wrap .i64 (p1 - ((p0.lo.size : Int)))) < 0)) (by kernel_rfl) (fun h1 => ?_) (fun h1 => ?_)
    · replace h := cT h1 h
      refine a_seq ?_
      refine a_run [4] tyOK (st1 := mk 20 [(4, iV (-1))] []) (by kernel_rfl) ?_
      refine a_ret ?_
      obtain rfl := h
      exact end_eq (res' := iV (-1)) (by kernel_rfl) (by first | rfl | simp)
    · replace h := cF h1 h
      refine a_skip ?_
      refine a_seq ?_
      refine a_run [1] tyOK (st1 := mk 20 [(1, iV (IntKind.wrap .i64 ((IntKind.wrap .i64 (p1 - ((p0.lo.size : Int)))) - ((p0.hi.size : Int)))))] []) (by kernel_rfl) ?_
      refine a_seq ?_
      refine a_seq ?_
      refine a_run [1, 18] tyOK (st1 := mk 20 [(1, iV (IntKind.wrap .i64 ((IntKind.wrap .i64 (p1 - ((p0.lo.size : Int)))) - ((p0.hi.size : Int))))), (18, bV (decide ((IntKind.wrap .i64 ((IntKind.wrap .i64 (p1 - ((p0.lo.size : Int)))) - ((p0.hi.size : Int)))) < 0)))] []) (by kernel_rfl) ?_
      refine a_cond (b := decide ((IntKind.wrap .i64 ((IntKind.wrap .i64 (p1 - ((p0.lo.size : Int)))) - ((p0.hi.size : Int)))) < 0)) (by kernel_rfl) (fun h2 => ?_) (fun h2 => ?_)
      · replace h := cT h2 h
        refine a_seq ?_
        refine a_run [4] tyOK (st1 := mk 20 [(4, iV (-1))] []) (by kernel_rfl) ?_
        refine a_ret ?_
        obtain rfl := h
        exact end_eq (res' := iV (-1)) (by kernel_rfl) (by first | rfl | simp)
      · replace h := cF h2 h
        refine a_skip ?_
        refine a_seq ?_
        refine a_run [4] tyOK (st1 := mk 20 [(4, iV (IntKind.wrap .i64 ((IntKind.wrap .i64 (p1 - ((p0.lo.size : Int)))) - ((p0.hi.size : Int)))))] []) (by kernel_rfl) ?_
        refine a_ret ?_
        obtain rfl := h
        exact end_eq (res' := iV (IntKind.wrap .i64 ((IntKind.wrap .i64 (p1 - ((p0.lo.size : Int)))) - ((p0.hi.size : Int))))) (by kernel_rfl) (by first | rfl | simp)

noncomputable def w_szLock (p0 : Lock) (p1 : Int) : Int :=
 bif (decide ((w_szRange p0.range p1) < 0)) then
 (-1)
 else
 (w_szRange p0.range p1)
set_option maxHeartbeats 4000000 in
/-- laws.szLock -/
theorem k_w_szLock (p0 : Lock) (p1 : Int) (v : Int) (h : w_szLock p0 p1 = v) : CallOK Try.prog 28 [.agg [.c (iC p0.tx.c), .c (iC p0.tx.e), .c (iC p0.tx.n), .c (sC p0.range.lo), .c (sC p0.range.hi), .c (bC p0.ex)], iV p1] (iV v) [] :=
  callOK tyOK Try.func28 rfl fun w S hS => by
    unfold w_szLock at h
    refine a_seq ?_
    refine a_run [1, 2] tyOK (st1 := mk 12 [(1, iV p1), (2, .one (.pl [(2, 0)] 0 0))] [(2, [.bx [iC p0.tx.c, iC p0.tx.e, iC p0.tx.n, sC p0.range.lo, sC p0.range.hi, bC p0.ex]])]) (by kernel_rfl) ?_
    refine a_seq ?_
    refine a_ops [0, 1, 2, 3, 4] (by kernel_rfl) ?_
    refine ao_some [0, 1, 2] [3, 4] [6, 7] tyOK (st1 := mk 12 [(6, .agg [.c (sC p0.range.lo), .c (sC p0.range.hi)]), (7, iV p1)] []) (by kernel_rfl) ?_
    refine ao_enter (f := 59) (d := 8) (A := [.agg [.c (sC p0.range.lo), .c (sC p0.range.hi)], iV p1]) (st1 := mk 12 [(8, iV (w_szRange p0.range p1))] []) [8] (k_w_szRange p0.range p1 _ rfl) Try.call59 (by kernel_rfl) (by kernel_rfl) (by kernel_rfl) ?_
    refine ao_some [4] [] [1] tyOK (st1 := mk 12 [(1, iV (w_szRange p0.range p1))] []) (by kernel_rfl) ?_
    refine ao_nil ?_
    refine a_seq ?_
    refine a_seq ?_
    refine a_run [1, 10] tyOK (st1 := mk 12 [(1, iV (w_szRange p0.range p1)), (10, bV (decide ((w_szRange p0.range p1) < 0)))] []) (by kernel_rfl) ?_
    refine a_cond (b := decide ((w_szRange p0.range p1) < 0)) (by kernel_rfl) (fun h1 => ?_) (fun h1 => ?_)
    · replace h := cT h1 h
      refine a_seq ?_
      refine a_run [4] tyOK (st1 := mk 12 [(4, iV (-1))] []) (by kernel_rfl) ?_
      refine a_ret ?_
      obtain rfl := h
      exact end_eq (res' := iV (-1)) (by kernel_rfl) (by first | rfl | simp)
    · replace h := cF h1 h
      refine a_skip ?_
      refine a_seq ?_
      refine a_run [4] tyOK (st1 := mk 12 [(4, iV (w_szRange p0.range p1))] []) (by kernel_rfl) ?_
      refine a_ret ?_
      obtain rfl := h
      exact end_eq (res' := iV (w_szRange p0.range p1)) (by kernel_rfl) (by first | rfl | simp)

structure Sw_szLockS_1 where
  v1 : Int
  v5 : Int

noncomputable def Bw_szLockS_1 (p0 : (List Lock)) (s1 : Sw_szLockS_1) : Option (Sw_szLockS_1 ⊕ (Int ⊕ (Int))) :=
 bif (decide (s1.v5 < (((((p0).map eLock).length : Nat) : Int)))) then
 (bnd (getI p0 s1.v5) fun x1 =>
 bif (decide ((w_szLock x1 s1.v1) < 0)) then
 (some (.inr (.inr (-1))))
 else
 (some (.inl ((⟨w_szLock x1 s1.v1, IntKind.wrap .i64 (s1.v5 + 1)⟩ : Sw_szLockS_1)))))
 else
 (some (.inr (.inl s1.v1)))

noncomputable def w_szLockS (p0 : (List Lock)) (p1 : Int) : Option (Int) :=
 bif (decide ((IntKind.wrap .i64 (p1 - (((((p0).map eLock).length : Nat) : Int)))) < 0)) then
 (some (-1))
 else
 (bndS (loopT (Bw_szLockS_1 p0) ((⟨IntKind.wrap .i64 (p1 - (((((p0).map eLock).length : Nat) : Int))), 0⟩ : Sw_szLockS_1))) fun j1 =>
 some j1)
set_option maxHeartbeats 4000000 in
/-- laws.szLockS -/
theorem k_w_szLockS (p0 : (List Lock)) (p1 : Int) (v : Int) (h : w_szLockS p0 p1 = some v) : CallOK Try.prog 58 [.one (.c (.sl 6 ((p0).map eLock))), iV p1] (iV v) [] :=
  callOK tyOK Try.func58 rfl fun w S hS => by
    unfold w_szLockS at h
    refine a_seq ?_
    refine a_run [0, 1] tyOK (st1 := mk 27 [(0, .one (.c (.sl 6 ((p0).map eLock)))), (1, iV p1)] []) (by kernel_rfl) ?_
    refine a_seq ?_
    refine a_run [0, 1] tyOK (st1 := mk 27 [(0, .one (.c (.sl 6 ((p0).map eLock)))), (1, iV (IntKind.wrap .i64 (p1 - (((((p0).map eLock).length : Nat) : Int)))))] []) (by kernel_rfl) ?_
    refine a_seq ?_
    refine a_seq ?_
    refine a_run [0, 1, 11] tyOK (st1 := mk 27 [(0, .one (.c (.sl 6 ((p0).map eLock)))), (1, iV (IntKind.wrap .i64 (p1 - (((((p0).map eLock).length : Nat) : Int))))), (11, bV (decide ((IntKind.wrap .i64 (p1 - (((((p0).map eLock).length : Nat) : Int)))) < 0)))] []) (by kernel_rfl) ?_
    refine a_cond (b := decide ((IntKind.wrap .i64 (p1 - (((((p0).map eLock).length : Nat) : Int)))) < 0)) (by kernel_rfl) (fun h1 => ?_) (fun h1 => ?_)
    · replace h := cT h1 h
      refine a_seq ?_
      refine a_run [4] tyOK (st1 := mk 27 [(4, iV (-1))] []) (by kernel_rfl) ?_
      refine a_ret ?_
      obtain rfl := Option.some.inj h
      exact end_eq (res' := iV (-1)) (by kernel_rfl) (by first | rfl | simp)
    · replace h := cF h1 h
      refine a_skip ?_
      refine a_seq ?_
      refine a_seq ?_
      refine a_run [0, 1, 5] tyOK (st1 := mk 27 [(0, .one (.c (.sl 6 ((p0).map eLock)))), (1, iV (IntKind.wrap .i64 (p1 - (((((p0).map eLock).length : Nat) : Int))))), (5, iV 0)] []) (by kernel_rfl) ?_
      obtain ⟨y1, h, ky1, zy1⟩ := bndS_e h
      refine a_joinT (ι := Int) (fun j => mk 27 [(1, iV j)] []) (fun j => y1 = .inl j) ?_ ?_
      · refine a_block ?_
        refine a_loopT (Bw_szLockS_1 p0) (fun s1 => mk 27 [(0, .one (.c (.sl 6 ((p0).map eLock)))), (1, iV s1.v1), (5, iV s1.v5)] []) ((⟨IntKind.wrap .i64 (p1 - (((((p0).map eLock).length : Nat) : Int))), 0⟩ : Sw_szLockS_1)) h ?_ ?_
        · exact imp_keepTo [0, 1, 5] (by kernel_rfl) (imp_done rfl)
        intro s1 y2 h zy2
        unfold Bw_szLockS_1 at h
        refine a_seq ?_
        refine a_seq ?_
        refine a_run [0, 1, 5, 15] tyOK (st1 := mk 27 [(0, .one (.c (.sl 6 ((p0).map eLock)))), (1, iV s1.v1), (5, iV s1.v5), (15, bV (decide (s1.v5 < (((((p0).map eLock).length : Nat) : Int)))))] []) (by kernel_rfl) ?_
        refine a_cond (b := decide (s1.v5 < (((((p0).map eLock).length : Nat) : Int)))) (by kernel_rfl) (fun h2 => ?_) (fun h2 => ?_)
        · replace h := cT h2 h
          refine a_skip ?_
          refine a_seq ?_
          refine a_block ?_
          refine a_seq ?_
          refine a_ops [0, 1, 2, 3, 4, 5, 6] (by kernel_rfl) ?_
          refine ao_some [0, 1] [2, 3, 4, 5, 6] [0, 1, 5, 18, 19] tyOK (st1 := mk 27 [(0, .one (.c (.sl 6 ((p0).map eLock)))), (1, iV s1.v1), (5, iV s1.v5), (18, .one (.c (.sl 6 ((p0).map eLock)))), (19, iV s1.v5)] []) (by kernel_rfl) ?_
          obtain ⟨x1, ex1, h⟩ := bnd_e h
          refine ao_index (d := 20) (size := 6) (n := s1.v5) (rows := (p0).map eLock) (st1 := mk 27 [(0, .one (.c (.sl 6 ((p0).map eLock)))), (1, iV s1.v1), (5, iV s1.v5), (20, .one (.fp [iC x1.tx.c, iC x1.tx.e, iC x1.tx.n, sC x1.range.lo, sC x1.range.hi, bC x1.ex] 0))] []) (eLock x1) [0, 1, 5, 20] tyOK (by kernel_rfl) (getI_e ex1).1 (show ((p0).map eLock)[_]? = some _ from by rw [List.getElem?_map, (getI_e ex1).2]; rfl) (by kernel_rfl) (by kernel_rfl) ?_
          refine ao_some [3, 4] [5, 6] [0, 5, 21, 22] tyOK (st1 := mk 27 [(0, .one (.c (.sl 6 ((p0).map eLock)))), (5, iV s1.v5), (21, .agg [.c (iC x1.tx.c), .c (iC x1.tx.e), .c (iC x1.tx.n), .c (sC x1.range.lo), .c (sC x1.range.hi), .c (bC x1.ex)]), (22, iV s1.v1)] []) (by kernel_rfl) ?_
          refine ao_enter (f := 28) (d := 23) (A := [.agg [.c (iC x1.tx.c), .c (iC x1.tx.e), .c (iC x1.tx.n), .c (sC x1.range.lo), .c (sC x1.range.hi), .c (bC x1.ex)], iV s1.v1]) (st1 := mk 27 [(0, .one (.c (.sl 6 ((p0).map eLock)))), (5, iV s1.v5), (23, iV (w_szLock x1 s1.v1))] []) [0, 5, 23] (k_w_szLock x1 s1.v1 _ rfl) Try.call28 (by kernel_rfl) (by kernel_rfl) (by kernel_rfl) ?_
          refine ao_some [6] [] [0, 1, 5] tyOK (st1 := mk 27 [(0, .one (.c (.sl 6 ((p0).map eLock)))), (1, iV (w_szLock x1 s1.v1)), (5, iV s1.v5)] []) (by kernel_rfl) ?_
          refine ao_nil ?_
          refine a_seq ?_
          refine a_run [0, 1, 5, 25] tyOK (st1 := mk 27 [(0, .one (.c (.sl 6 ((p0).map eLock)))), (1, iV (w_szLock x1 s1.v1)), (5, iV s1.v5), (25, bV (decide ((w_szLock x1 s1.v1) < 0)))] []) (by kernel_rfl) ?_
          refine a_cond (b := decide ((w_szLock x1 s1.v1) < 0)) (by kernel_rfl) (fun h3 => ?_) (fun h3 => ?_)
          · replace h := cT h3 h
            refine a_seq ?_
            refine a_run [4] tyOK (st1 := mk 27 [(4, iV (-1))] []) (by kernel_rfl) ?_
            refine a_ret ?_
            obtain rfl := Option.some.inj h
            obtain rfl := zy2 _ rfl
            obtain rfl := zy1 _ rfl
            exact end_eq (res' := iV (-1)) (by kernel_rfl) (by first | rfl | simp)
          · replace h := cF h3 h
            refine a_skip ?_
            refine a_run [0, 1, 5] tyOK (st1 := mk 27 [(0, .one (.c (.sl 6 ((p0).map eLock)))), (1, iV (w_szLock x1 s1.v1)), (5, iV (IntKind.wrap .i64 (s1.v5 + 1)))] []) (by kernel_rfl) ?_
            obtain rfl := Option.some.inj h
            show ∃ _, _ ∧ Imp _ _ _
            refine ⟨_, rfl, ?_⟩
            exact imp_keepTo [0, 1, 5] (by kernel_rfl) (imp_done rfl)
        · replace h := cF h2 h
          refine a_exit ?_
          obtain rfl := Option.some.inj h
          obtain rfl := zy2 _ rfl
          show ∃ _, _ ∧ Imp _ _ _
          refine ⟨_, rfl, ?_⟩
          exact imp_keepTo [1] (by kernel_rfl) (imp_done rfl)
      intro j1 hj1
      replace h := ky1 _ hj1
      refine a_seq ?_
      refine a_run [4] tyOK (st1 := mk 27 [(4, iV j1)] []) (by kernel_rfl) ?_
      refine a_ret ?_
      obtain rfl := Option.some.inj h
      exact end_eq (res' := iV j1) (by kernel_rfl) (by first | rfl | simp)

noncomputable def w_szLocks (p0 : Locks) (p1 : Int) : Option (Int) :=
 bnd (w_szLockS p0.held p1) fun r1 =>
 bif (decide (r1 < 0)) then
 (some (-1))
 else
 (bnd (w_szLockS p0.wait r1) fun r2 =>
 bif (decide (r2 < 0)) then
 (some (-1))
 else
 (some r2))
set_option maxHeartbeats 4000000 in
/-- laws.szLocks -/
theorem k_w_szLocks (p0 : Locks) (p1 : Int) (v : Int) (h : w_szLocks p0 p1 = some v) : CallOK Try.prog 27 [.agg [.c (.sl 6 ((p0.held).map eLock)), .c (.sl 6 ((p0.wait).map eLock))], iV p1] (iV v) [] :=
  callOK tyOK Try.func27 rfl fun w S hS => by
    unfold w_szLocks at h
    refine a_seq ?_
    refine a_run [1, 2] tyOK (st1 := mk 18 [(1, iV p1), (2, .one (.pl [(2, 0)] 0 0))] [(2, [.bx [.fz (.sl 6 ((p0.held).map eLock)), .fz (.sl 6 ((p0.wait).map eLock))]])]) (by kernel_rfl) ?_
    refine a_seq ?_
    refine a_ops [0, 1, 2, 3, 4] (by kernel_rfl) ?_
    refine ao_some [0, 1, 2] [3, 4] [2, 6, 7] tyOK (st1 := mk 18 [(2, .one (.pl [(2, 0)] 0 0)), (6, .one (.c (.sl 6 ((p0.held).map eLock)))), (7, iV p1)] [(2, [.bx [.fz (.sl 6 ((p0.held).map eLock)), .fz (.sl 6 ((p0.wait).map eLock))]])]) (by kernel_rfl) ?_
    obtain ⟨r1, er1, h⟩ := bnd_e h
    refine ao_enter (f := 58) (d := 8) (A := [.one (.c (.sl 6 ((p0.held).map eLock))), iV p1]) (st1 := mk 18 [(2, .one (.pl [(2, 0)] 0 0)), (8, iV r1)] [(2, [.bx [.fz (.sl 6 ((p0.held).map eLock)), .fz (.sl 6 ((p0.wait).map eLock))]])]) [2, 8] (k_w_szLockS p0.held p1 r1 er1) Try.call58 (by kernel_rfl) (by kernel_rfl) (by kernel_rfl) ?_
    refine ao_some [4] [] [1, 2] tyOK (st1 := mk 18 [(1, iV r1), (2, .one (.pl [(2, 0)] 0 0))] [(2, [.bx [.fz (.sl 6 ((p0.held).map eLock)), .fz (.sl 6 ((p0.wait).map eLock))]])]) (by kernel_rfl) ?_
    refine ao_nil ?_
    refine a_seq ?_
    refine a_seq ?_
    refine a_run [1, 2, 10] tyOK (st1 := mk 18 [(1, iV r1), (2, .one (.pl [(2, 0)] 0 0)), (10, bV (decide (r1 < 0)))] [(2, [.bx [.fz (.sl 6 ((p0.held).map eLock)), .fz (.sl 6 ((p0.wait).map eLock))]])]) (by kernel_rfl) ?_
    refine a_cond (b := decide (r1 < 0)) (by kernel_rfl) (fun h1 => ?_) (fun h1 => ?_)
    · replace h := cT h1 h
      refine a_seq ?_
      refine a_run [4] tyOK (st1 := mk 18 [(4, iV (-1))] []) (by kernel_rfl) ?_
      refine a_ret ?_
      obtain rfl := Option.some.inj h
      exact end_eq (res' := iV (-1)) (by kernel_rfl) (by first | rfl | simp)
    · replace h := cF h1 h
      refine a_skip ?_
      refine a_seq ?_
      refine a_ops [0, 1, 2, 3, 4] (by kernel_rfl) ?_
      refine ao_some [0, 1, 2] [3, 4] [12, 13] tyOK (st1 := mk 18 [(12, .one (.c (.sl 6 ((p0.wait).map eLock)))), (13, iV r1)] []) (by kernel_rfl) ?_
      obtain ⟨r2, er2, h⟩ := bnd_e h
      refine ao_enter (f := 58) (d := 14) (A := [.one (.c (.sl 6 ((p0.wait).map eLock))), iV r1]) (st1 := mk 18 [(14, iV r2)] []) [14] (k_w_szLockS p0.wait r1 r2 er2) Try.call58 (by kernel_rfl) (by kernel_rfl) (by kernel_rfl) ?_
      refine ao_some [4] [] [1] tyOK (st1 := mk 18 [(1, iV r2)] []) (by kernel_rfl) ?_
      refine ao_nil ?_
      refine a_seq ?_
      refine a_seq ?_
      refine a_run [1, 16] tyOK (st1 := mk 18 [(1, iV r2), (16, bV (decide (r2 < 0)))] []) (by kernel_rfl) ?_
      refine a_cond (b := decide (r2 < 0)) (by kernel_rfl) (fun h2 => ?_) (fun h2 => ?_)
      · replace h := cT h2 h
        refine a_seq ?_
        refine a_run [4] tyOK (st1 := mk 18 [(4, iV (-1))] []) (by kernel_rfl) ?_
        refine a_ret ?_
        obtain rfl := Option.some.inj h
        exact end_eq (res' := iV (-1)) (by kernel_rfl) (by first | rfl | simp)
      · replace h := cF h2 h
        refine a_skip ?_
        refine a_seq ?_
        refine a_run [4] tyOK (st1 := mk 18 [(4, iV r2)] []) (by kernel_rfl) ?_
        refine a_ret ?_
        obtain rfl := Option.some.inj h
        exact end_eq (res' := iV r2) (by kernel_rfl) (by first | rfl | simp)

noncomputable def w_toTx (p0 : Tx) : Tx :=
 p0
set_option maxHeartbeats 4000000 in
/-- laws.toTx -/
theorem k_w_toTx (p0 : Tx) (v : Tx) (h : w_toTx p0 = v) : CallOK Try.prog 17 [.agg [.c (iC p0.c), .c (iC p0.e), .c (iC p0.n)]] (.agg [.c (iC v.c), .c (iC v.e), .c (iC v.n)]) [] :=
  callOK tyOK Try.func17 rfl fun w S hS => by
    unfold w_toTx at h
    refine a_seq ?_
    refine a_run [1, 2] tyOK (st1 := mk 14 [(1, .one (.pl [(1, 0)] 0 0)), (2, .one (.pl [(2, 0)] 0 0))] [(1, [.bx [iC p0.c, iC p0.e, iC p0.n]]), (2, [.bx [iC 0, iC 0, iC 0]])]) (by kernel_rfl) ?_
    refine a_seq ?_
    refine a_run [1, 2, 3] tyOK (st1 := mk 14 [(1, .one (.pl [(1, 0)] 0 0)), (2, .one (.pl [(2, 0)] 0 0)), (3, .one (.pl [(3, 0)] 0 0))] [(1, [.bx [iC p0.c, iC p0.e, iC p0.n]]), (2, [.bx [iC 0, iC 0, iC 0]]), (3, [.bx [iC 0, iC 0, iC 0]])]) (by kernel_rfl) ?_
    refine a_seq ?_
    refine a_run [1, 2, 3] tyOK (st1 := mk 14 [(1, .one (.pl [(1, 0)] 0 0)), (2, .one (.pl [(2, 0)] 0 0)), (3, .one (.pl [(3, 0)] 0 0))] [(1, [.bx [iC p0.c, iC p0.e, iC p0.n]]), (2, [.bx [iC 0, iC 0, iC 0]]), (3, [.bx [iC p0.c, iC 0, iC 0]])]) (by kernel_rfl) ?_
    refine a_seq ?_
    refine a_run [1, 2, 3] tyOK (st1 := mk 14 [(1, .one (.pl [(1, 0)] 0 0)), (2, .one (.pl [(2, 0)] 0 0)), (3, .one (.pl [(3, 0)] 0 0))] [(1, [.bx [iC p0.c, iC p0.e, iC p0.n]]), (2, [.bx [iC 0, iC 0, iC 0]]), (3, [.bx [iC p0.c, iC p0.e, iC 0]])]) (by kernel_rfl) ?_
    refine a_seq ?_
    refine a_run [2, 3] tyOK (st1 := mk 14 [(2, .one (.pl [(2, 0)] 0 0)), (3, .one (.pl [(3, 0)] 0 0))] [(2, [.bx [iC 0, iC 0, iC 0]]), (3, [.bx [iC p0.c, iC p0.e, iC p0.n]])]) (by kernel_rfl) ?_
    refine a_seq ?_
    refine a_run [2] tyOK (st1 := mk 14 [(2, .one (.pl [(2, 0)] 0 0))] [(2, [.bx [iC p0.c, iC p0.e, iC p0.n]])]) (by kernel_rfl) ?_
    refine a_ret ?_
    obtain rfl := h
    exact end_eq (res' := .agg [.c (iC p0.c), .c (iC p0.e), .c (iC p0.n)]) (by kernel_rfl) (by first | rfl | simp)

end Go.Proofs.Ytijmnochaamllaa
namespace Go.Proofs.Ytijmnochaamllaa
open Go.Mv Go.RowKit
noncomputable def w_toRange (p0 : Range) : Range :=
 p0
set_option maxHeartbeats 4000000 in
/-- laws.toRange -/
theorem k_w_toRange (p0 : Range) (v : Range) (h : w_toRange p0 = v) : CallOK Try.prog 66 [.agg [.c (sC p0.lo), .c (sC p0.hi)]] (.agg [.c (sC v.lo), .c (sC v.hi)]) [] :=
  callOK tyOK Try.func66 rfl fun w S hS => by
    unfold w_toRange at h
    refine a_seq ?_
    refine a_run [1, 2] tyOK (st1 := mk 11 [(1, .one (.pl [(1, 0)] 0 0)), (2, .one (.pl [(2, 0)] 0 0))] [(1, [.bx [sC p0.lo, sC p0.hi]]), (2, [.bx [sC ((⟨#[]⟩ : ByteArray)), sC ((⟨#[]⟩ : ByteArray))]])]) (by kernel_rfl) ?_
    refine a_seq ?_
    refine a_run [1, 2, 3] tyOK (st1 := mk 11 [(1, .one (.pl [(1, 0)] 0 0)), (2, .one (.pl [(2, 0)] 0 0)), (3, .one (.pl [(3, 0)] 0 0))] [(1, [.bx [sC p0.lo, sC p0.hi]]), (2, [.bx [sC ((⟨#[]⟩ : ByteArray)), sC ((⟨#[]⟩ : ByteArray))]]), (3, [.bx [sC ((⟨#[]⟩ : ByteArray)), sC ((⟨#[]⟩ : ByteArray))]])]) (by kernel_rfl) ?_
    refine a_seq ?_
    refine a_run [1, 2, 3] tyOK (st1 := mk 11 [(1, .one (.pl [(1, 0)] 0 0)), (2, .one (.pl [(2, 0)] 0 0)), (3, .one (.pl [(3, 0)] 0 0))] [(1, [.bx [sC p0.lo, sC p0.hi]]), (2, [.bx [sC ((⟨#[]⟩ : ByteArray)), sC ((⟨#[]⟩ : ByteArray))]]), (3, [.bx [sC p0.lo, sC ((⟨#[]⟩ : ByteArray))]])]) (by kernel_rfl) ?_
    refine a_seq ?_
    refine a_run [2, 3] tyOK (st1 := mk 11 [(2, .one (.pl [(2, 0)] 0 0)), (3, .one (.pl [(3, 0)] 0 0))] [(2, [.bx [sC ((⟨#[]⟩ : ByteArray)), sC ((⟨#[]⟩ : ByteArray))]]), (3, [.bx [sC p0.lo, sC p0.hi]])]) (by kernel_rfl) ?_
    refine a_seq ?_
    refine a_run [2] tyOK (st1 := mk 11 [(2, .one (.pl [(2, 0)] 0 0))] [(2, [.bx [sC p0.lo, sC p0.hi]])]) (by kernel_rfl) ?_
    refine a_ret ?_
    obtain rfl := h
    exact end_eq (res' := .agg [.c (sC p0.lo), .c (sC p0.hi)]) (by kernel_rfl) (by first | rfl | simp)

noncomputable def w_toLock (p0 : Lock) : Lock :=
 (⟨w_toTx p0.tx, w_toRange p0.range, p0.ex⟩ : Lock)
set_option maxHeartbeats 4000000 in
/-- laws.toLock -/
theorem k_w_toLock (p0 : Lock) (v : Lock) (h : w_toLock p0 = v) : CallOK Try.prog 31 [.agg [.c (iC p0.tx.c), .c (iC p0.tx.e), .c (iC p0.tx.n), .c (sC p0.range.lo), .c (sC p0.range.hi), .c (bC p0.ex)]] (.agg [.c (iC v.tx.c), .c (iC v.tx.e), .c (iC v.tx.n), .c (sC v.range.lo), .c (sC v.range.hi), .c (bC v.ex)]) [] :=
  callOK tyOK Try.func31 rfl fun w S hS => by
    unfold w_toLock at h
    refine a_seq ?_
    refine a_run [1, 2] tyOK (st1 := mk 16 [(1, .one (.pl [(1, 0)] 0 0)), (2, .one (.pl [(2, 0)] 0 0))] [(1, [.bx [iC p0.tx.c, iC p0.tx.e, iC p0.tx.n, sC p0.range.lo, sC p0.range.hi, bC p0.ex]]), (2, [.bx [iC 0, iC 0, iC 0, sC ((⟨#[]⟩ : ByteArray)), sC ((⟨#[]⟩ : ByteArray)), bC false]])]) (by kernel_rfl) ?_
    refine a_seq ?_
    refine a_run [1, 2, 3] tyOK (st1 := mk 16 [(1, .one (.pl [(1, 0)] 0 0)), (2, .one (.pl [(2, 0)] 0 0)), (3, .one (.pl [(3, 0)] 0 0))] [(1, [.bx [iC p0.tx.c, iC p0.tx.e, iC p0.tx.n, sC p0.range.lo, sC p0.range.hi, bC p0.ex]]), (2, [.bx [iC 0, iC 0, iC 0, sC ((⟨#[]⟩ : ByteArray)), sC ((⟨#[]⟩ : ByteArray)), bC false]]), (3, [.bx [iC 0, iC 0, iC 0, sC ((⟨#[]⟩ : ByteArray)), sC ((⟨#[]⟩ : ByteArray)), bC false]])]) (by kernel_rfl) ?_
    refine a_seq ?_
    refine a_ops [0, 1, 2, 3, 4] (by kernel_rfl) ?_
    refine ao_some [0, 1] [2, 3, 4] [1, 2, 3, 5] tyOK (st1 := mk 16 [(1, .one (.pl [(1, 0)] 0 0)), (2, .one (.pl [(2, 0)] 0 0)), (3, .one (.pl [(3, 0)] 0 0)), (5, .agg [.c (iC p0.tx.c), .c (iC p0.tx.e), .c (iC p0.tx.n)])] [(1, [.bx [iC p0.tx.c, iC p0.tx.e, iC p0.tx.n, sC p0.range.lo, sC p0.range.hi, bC p0.ex]]), (2, [.bx [iC 0, iC 0, iC 0, sC ((⟨#[]⟩ : ByteArray)), sC ((⟨#[]⟩ : ByteArray)), bC false]]), (3, [.bx [iC 0, iC 0, iC 0, sC ((⟨#[]⟩ : ByteArray)), sC ((⟨#[]⟩ : ByteArray)), bC false]])]) (by kernel_rfl) ?_
    refine ao_enter (f := 17) (d := 6) (A := [.agg [.c (iC p0.tx.c), .c (iC p0.tx.e), .c (iC p0.tx.n)]]) (st1 := mk 16 [(1, .one (.pl [(1, 0)] 0 0)), (2, .one (.pl [(2, 0)] 0 0)), (3, .one (.pl [(3, 0)] 0 0)), (6, .agg [.c (iC ((w_toTx p0.tx).c)), .c (iC ((w_toTx p0.tx).e)), .c (iC ((w_toTx p0.tx).n))])] [(1, [.bx [iC p0.tx.c, iC p0.tx.e, iC p0.tx.n, sC p0.range.lo, sC p0.range.hi, bC p0.ex]]), (2, [.bx [iC 0, iC 0, iC 0, sC ((⟨#[]⟩ : ByteArray)), sC ((⟨#[]⟩ : ByteArray)), bC false]]), (3, [.bx [iC 0, iC 0, iC 0, sC ((⟨#[]⟩ : ByteArray)), sC ((⟨#[]⟩ : ByteArray)), bC false]])]) [1, 2, 3, 6] (k_w_toTx p0.tx _ rfl) Try.call17 (by kernel_rfl) (by kernel_rfl) (by kernel_rfl) ?_
    refine ao_some [3, 4] [] [1, 2, 3] tyOK (st1 := mk 16 [(1, .one (.pl [(1, 0)] 0 0)), (2, .one (.pl [(2, 0)] 0 0)), (3, .one (.pl [(3, 0)] 0 0))] [(1, [.bx [iC p0.tx.c, iC p0.tx.e, iC p0.tx.n, sC p0.range.lo, sC p0.range.hi, bC p0.ex]]), (2, [.bx [iC 0, iC 0, iC 0, sC ((⟨#[]⟩ : ByteArray)), sC ((⟨#[]⟩ : ByteArray)), bC false]]), (3, [.bx [iC ((w_toTx p0.tx).c), iC ((w_toTx p0.tx).e), iC ((w_toTx p0.tx).n), sC ((⟨#[]⟩ : ByteArray)), sC ((⟨#[]⟩ : ByteArray)), bC false]])]) (by kernel_rfl) ?_
    refine ao_nil ?_
    refine a_seq ?_
    refine a_ops [0, 1, 2, 3, 4] (by kernel_rfl) ?_
    refine ao_some [0, 1] [2, 3, 4] [1, 2, 3, 9] tyOK (st1 := mk 16 [(1, .one (.pl [(1, 0)] 0 0)), (2, .one (.pl [(2, 0)] 0 0)), (3, .one (.pl [(3, 0)] 0 0)), (9, .agg [.c (sC p0.range.lo), .c (sC p0.range.hi)])] [(1, [.bx [iC p0.tx.c, iC p0.tx.e, iC p0.tx.n, sC p0.range.lo, sC p0.range.hi, bC p0.ex]]), (2, [.bx [iC 0, iC 0, iC 0, sC ((⟨#[]⟩ : ByteArray)), sC ((⟨#[]⟩ : ByteArray)), bC false]]), (3, [.bx [iC ((w_toTx p0.tx).c), iC ((w_toTx p0.tx).e), iC ((w_toTx p0.tx).n), sC ((⟨#[]⟩ : ByteArray)), sC ((⟨#[]⟩ : ByteArray)), bC false]])]) (by kernel_rfl) ?_
    refine ao_enter (f := 66) (d := 10) (A := [.agg [.c (sC p0.range.lo), .c (sC p0.range.hi)]]) (st1 := mk 16 [(1, .one (.pl [(1, 0)] 0 0)), (2, .one (.pl [(2, 0)] 0 0)), (3, .one (.pl [(3, 0)] 0 0)), (10, .agg [.c (sC ((w_toRange p0.range).lo)), .c (sC ((w_toRange p0.range).hi))])] [(1, [.bx [iC p0.tx.c, iC p0.tx.e, iC p0.tx.n, sC p0.range.lo, sC p0.range.hi, bC p0.ex]]), (2, [.bx [iC 0, iC 0, iC 0, sC ((⟨#[]⟩ : ByteArray)), sC ((⟨#[]⟩ : ByteArray)), bC false]]), (3, [.bx [iC ((w_toTx p0.tx).c), iC ((w_toTx p0.tx).e), iC ((w_toTx p0.tx).n), sC ((⟨#[]⟩ : ByteArray)), sC ((⟨#[]⟩ : ByteArray)), bC false]])]) [1, 2, 3, 10] (k_w_toRange p0.range _ rfl) Try.call66 (by kernel_rfl) (by kernel_rfl) (by kernel_rfl) ?_
    refine ao_some [3, 4] [] [1, 2, 3] tyOK (st1 := mk 16 [(1, .one (.pl [(1, 0)] 0 0)), (2, .one (.pl [(2, 0)] 0 0)), (3, .one (.pl [(3, 0)] 0 0))] [(1, [.bx [iC p0.tx.c, iC p0.tx.e, iC p0.tx.n, sC p0.range.lo, sC p0.range.hi, bC p0.ex]]), (2, [.bx [iC 0, iC 0, iC 0, sC ((⟨#[]⟩ : ByteArray)), sC ((⟨#[]⟩ : ByteArray)), bC false]]), (3, [.bx [iC ((w_toTx p0.tx).c), iC ((w_toTx p0.tx).e), iC ((w_toTx p0.tx).n), sC ((w_toRange p0.range).lo), sC ((w_toRange p0.range).hi), bC false]])]) (by kernel_rfl) ?_
    refine ao_nil ?_
    refine a_seq ?_
    refine a_run [2, 3] tyOK (st1 := mk 16 [(2, .one (.pl [(2, 0)] 0 0)), (3, .one (.pl [(3, 0)] 0 0))] [(2, [.bx [iC 0, iC 0, iC 0, sC ((⟨#[]⟩ : ByteArray)), sC ((⟨#[]⟩ : ByteArray)), bC false]]), (3, [.bx [iC ((w_toTx p0.tx).c), iC ((w_toTx p0.tx).e), iC ((w_toTx p0.tx).n), sC ((w_toRange p0.range).lo), sC ((w_toRange p0.range).hi), bC p0.ex]])]) (by kernel_rfl) ?_
    refine a_seq ?_
    refine a_run [2] tyOK (st1 := mk 16 [(2, .one (.pl [(2, 0)] 0 0))] [(2, [.bx [iC ((w_toTx p0.tx).c), iC ((w_toTx p0.tx).e), iC ((w_toTx p0.tx).n), sC ((w_toRange p0.range).lo), sC ((w_toRange p0.range).hi), bC p0.ex]])]) (by kernel_rfl) ?_
    refine a_ret ?_
    obtain rfl := h
    exact end_eq (res' := .agg [.c (iC ((w_toTx p0.tx).c)), .c (iC ((w_toTx p0.tx).e)), .c (iC ((w_toTx p0.tx).n)), .c (sC ((w_toRange p0.range).lo)), .c (sC ((w_toRange p0.range).hi)), .c (bC p0.ex)]) (by kernel_rfl) (by first | rfl | simp)

structure Sw_toLockS_1 where
  v4 : Int
  w7_0 : (List Lock)

noncomputable def Bw_toLockS_1 (p0 : (List Lock)) (s1 : Sw_toLockS_1) : Option (Sw_toLockS_1 ⊕ (List Lock)) :=
 bif (decide (s1.v4 < (((((p0).map eLock).length : Nat) : Int)))) then
 (bnd (getI p0 s1.v4) fun x1 =>
 bnd (getI s1.w7_0 s1.v4) fun x2 =>
 some (.inl ((⟨IntKind.wrap .i64 (s1.v4 + 1), s1.w7_0.set ((s1.v4).toNat) (w_toLock x1)⟩ : Sw_toLockS_1))))
 else
 (some (.inr s1.w7_0))

noncomputable def w_toLockS (p0 : (List Lock)) : Option ((List Lock)) :=
 chk (0 ≤ (((((p0).map eLock).length : Nat) : Int) : Int) ∧ (((((p0).map eLock).length : Nat) : Int) : Int).toNat * 64 ≤ 140737488355328) <|
 bnd (loopT (Bw_toLockS_1 p0) ((⟨0, List.replicate (((((p0).map eLock).length : Nat) : Int) : Int).toNat ((⟨(⟨0, 0, 0⟩ : Tx), (⟨(⟨#[]⟩ : ByteArray), (⟨#[]⟩ : ByteArray)⟩ : Range), false⟩ : Lock))⟩ : Sw_toLockS_1))) fun j1 =>
 some j1
set_option maxHeartbeats 4000000 in
/-- laws.toLockS -/
theorem k_w_toLockS (p0 : (List Lock)) (v : (List Lock)) (h : w_toLockS p0 = some v) : CallOK Try.prog 65 [.one (.c (.sl 6 ((p0).map eLock)))] (.one (.so [] 0 0 ((v).length))) [.sl 6 ((v).map eLock)] :=
  callOK tyOK Try.func65 rfl fun w S hS => by
    unfold w_toLockS at h
    refine a_seq ?_
    refine a_run [0] tyOK (st1 := mk 23 [(0, .one (.c (.sl 6 ((p0).map eLock))))] []) (by kernel_rfl) ?_
    refine a_seq ?_
    refine a_ops [0, 1, 2, 3] (by kernel_rfl) ?_
    refine ao_some [0, 1] [2, 3] [0, 6] tyOK (st1 := mk 23 [(0, .one (.c (.sl 6 ((p0).map eLock)))), (6, iV (((((p0).map eLock).length : Nat) : Int)))] []) (by kernel_rfl) ?_
    obtain ⟨c1, h⟩ := chk_e h
    refine ao_make (d := 7) (size := 6) (bytes := 64) (n := ((((p0).map eLock).length : Nat) : Int)) (c := ((((p0).map eLock).length : Nat) : Int)) (z := [iC 0, iC 0, iC 0, sC ((⟨#[]⟩ : ByteArray)), sC ((⟨#[]⟩ : ByteArray)), bC false]) (rows' := (List.replicate (((((p0).map eLock).length : Nat) : Int) : Int).toNat ((⟨(⟨0, 0, 0⟩ : Tx), (⟨(⟨#[]⟩ : ByteArray), (⟨#[]⟩ : ByteArray)⟩ : Range), false⟩ : Lock))).map eLock) (st1 := mk 23 [(0, .one (.c (.sl 6 ((p0).map eLock)))), (7, .one (.so [] 7 0 ((((((p0).map eLock).length : Nat) : Int) : Int).toNat)))] [(7, [.sl 6 ((List.replicate (((((p0).map eLock).length : Nat) : Int) : Int).toNat ((⟨(⟨0, 0, 0⟩ : Tx), (⟨(⟨#[]⟩ : ByteArray), (⟨#[]⟩ : ByteArray)⟩ : Range), false⟩ : Lock))).map eLock)])]) [0, 7] tyOK (by kernel_rfl) rfl c1.1 c1.2 (by kernel_rfl) (by simp [bC, eLock, eRange, eTx, frzC, iC, sC]) (by kernel_rfl) ?_
    refine ao_some [3] [] [0, 3] tyOK (st1 := mk 23 [(0, .one (.c (.sl 6 ((p0).map eLock)))), (3, .one (.so [] 7 0 ((((((p0).map eLock).length : Nat) : Int) : Int).toNat)))] [(7, [.sl 6 ((List.replicate (((((p0).map eLock).length : Nat) : Int) : Int).toNat ((⟨(⟨0, 0, 0⟩ : Tx), (⟨(⟨#[]⟩ : ByteArray), (⟨#[]⟩ : ByteArray)⟩ : Range), false⟩ : Lock))).map eLock)])]) (by kernel_rfl) ?_
    refine ao_nil ?_
    refine a_seq ?_
    refine a_seq ?_
    refine a_run [0, 3, 4] tyOK (st1 := mk 23 [(0, .one (.c (.sl 6 ((p0).map eLock)))), (3, .one (.so [] 7 0 ((((((p0).map eLock).length : Nat) : Int) : Int).toNat))), (4, iV 0)] [(7, [.sl 6 ((List.replicate (((((p0).map eLock).length : Nat) : Int) : Int).toNat ((⟨(⟨0, 0, 0⟩ : Tx), (⟨(⟨#[]⟩ : ByteArray), (⟨#[]⟩ : ByteArray)⟩ : Range), false⟩ : Lock))).map eLock)])]) (by kernel_rfl) ?_
    obtain ⟨y1, h, ky1⟩ := bndJ_e h
    refine a_joinT (ι := (List Lock)) (fun j => mk 23 [(3, .one (.so [] 7 0 ((j).length)))] [(7, [.sl 6 ((j).map eLock)])]) (fun j => y1 = j) ?_ ?_
    · refine a_block ?_
      refine a_loopT (Bw_toLockS_1 p0) (fun s1 => mk 23 [(0, .one (.c (.sl 6 ((p0).map eLock)))), (3, .one (.so [] 7 0 ((s1.w7_0).length))), (4, iV s1.v4)] [(7, [.sl 6 ((s1.w7_0).map eLock)])]) ((⟨0, List.replicate (((((p0).map eLock).length : Nat) : Int) : Int).toNat ((⟨(⟨0, 0, 0⟩ : Tx), (⟨(⟨#[]⟩ : ByteArray), (⟨#[]⟩ : ByteArray)⟩ : Range), false⟩ : Lock))⟩ : Sw_toLockS_1)) h ?_ ?_
      · refine imp_says 3 (t := .one (.so [] 7 0 ((((((p0).map eLock).length : Nat) : Int) : Int).toNat))) (t' := .one (.so [] 7 0 ((List.replicate (((((p0).map eLock).length : Nat) : Int) : Int).toNat ((⟨(⟨0, 0, 0⟩ : Tx), (⟨(⟨#[]⟩ : ByteArray), (⟨#[]⟩ : ByteArray)⟩ : Range), false⟩ : Lock))).length))) [0, 3, 4] (s1 := mk 23 [(0, .one (.c (.sl 6 ((p0).map eLock)))), (3, .one (.so [] 7 0 ((List.replicate (((((p0).map eLock).length : Nat) : Int) : Int).toNat ((⟨(⟨0, 0, 0⟩ : Tx), (⟨(⟨#[]⟩ : ByteArray), (⟨#[]⟩ : ByteArray)⟩ : Range), false⟩ : Lock))).length))), (4, iV 0)] [(7, [.sl 6 ((List.replicate (((((p0).map eLock).length : Nat) : Int) : Int).toNat ((⟨(⟨0, 0, 0⟩ : Tx), (⟨(⟨#[]⟩ : ByteArray), (⟨#[]⟩ : ByteArray)⟩ : Range), false⟩ : Lock))).map eLock)])]) (by kernel_rfl) (by simp) (by kernel_rfl) ?_
        exact imp_keepTo [0, 3, 4] (by kernel_rfl) (imp_done rfl)
      intro s1 y2 h zy2
      unfold Bw_toLockS_1 at h
      refine a_seq ?_
      refine a_seq ?_
      refine a_run [0, 3, 4, 11] tyOK (st1 := mk 23 [(0, .one (.c (.sl 6 ((p0).map eLock)))), (3, .one (.so [] 7 0 ((s1.w7_0).length))), (4, iV s1.v4), (11, bV (decide (s1.v4 < (((((p0).map eLock).length : Nat) : Int)))))] [(7, [.sl 6 ((s1.w7_0).map eLock)])]) (by kernel_rfl) ?_
      refine a_cond (b := decide (s1.v4 < (((((p0).map eLock).length : Nat) : Int)))) (by kernel_rfl) (fun h1 => ?_) (fun h1 => ?_)
      · replace h := cT h1 h
        refine a_skip ?_
        refine a_seq ?_
        refine a_block ?_
        refine a_ops [0, 1, 2, 3, 4, 5, 6, 7, 8] (by kernel_rfl) ?_
        refine ao_some [0, 1, 2, 3] [4, 5, 6, 7, 8] [0, 3, 4, 14, 15, 16, 17] tyOK (st1 := mk 23 [(0, .one (.c (.sl 6 ((p0).map eLock)))), (3, .one (.so [] 7 0 ((s1.w7_0).length))), (4, iV s1.v4), (14, .one (.so [] 7 0 ((s1.w7_0).length))), (15, iV s1.v4), (16, .one (.c (.sl 6 ((p0).map eLock)))), (17, iV s1.v4)] [(7, [.sl 6 ((s1.w7_0).map eLock)])]) (by kernel_rfl) ?_
        obtain ⟨x1, ex1, h⟩ := bnd_e h
        refine ao_index (d := 18) (size := 6) (n := s1.v4) (rows := (p0).map eLock) (st1 := mk 23 [(0, .one (.c (.sl 6 ((p0).map eLock)))), (3, .one (.so [] 7 0 ((s1.w7_0).length))), (4, iV s1.v4), (14, .one (.so [] 7 0 ((s1.w7_0).length))), (15, iV s1.v4), (18, .one (.fp [iC x1.tx.c, iC x1.tx.e, iC x1.tx.n, sC x1.range.lo, sC x1.range.hi, bC x1.ex] 0))] [(7, [.sl 6 ((s1.w7_0).map eLock)])]) (eLock x1) [0, 3, 4, 14, 15, 18] tyOK (by kernel_rfl) (getI_e ex1).1 (show ((p0).map eLock)[_]? = some _ from by rw [List.getElem?_map, (getI_e ex1).2]; rfl) (by kernel_rfl) (by kernel_rfl) ?_
        refine ao_some [5] [6, 7, 8] [0, 3, 4, 14, 15, 19] tyOK (st1 := mk 23 [(0, .one (.c (.sl 6 ((p0).map eLock)))), (3, .one (.so [] 7 0 ((s1.w7_0).length))), (4, iV s1.v4), (14, .one (.so [] 7 0 ((s1.w7_0).length))), (15, iV s1.v4), (19, .agg [.c (iC x1.tx.c), .c (iC x1.tx.e), .c (iC x1.tx.n), .c (sC x1.range.lo), .c (sC x1.range.hi), .c (bC x1.ex)])] [(7, [.sl 6 ((s1.w7_0).map eLock)])]) (by kernel_rfl) ?_
        refine ao_enter (f := 31) (d := 20) (A := [.agg [.c (iC x1.tx.c), .c (iC x1.tx.e), .c (iC x1.tx.n), .c (sC x1.range.lo), .c (sC x1.range.hi), .c (bC x1.ex)]]) (st1 := mk 23 [(0, .one (.c (.sl 6 ((p0).map eLock)))), (3, .one (.so [] 7 0 ((s1.w7_0).length))), (4, iV s1.v4), (14, .one (.so [] 7 0 ((s1.w7_0).length))), (15, iV s1.v4), (20, .agg [.c (iC (((w_toLock x1).tx).c)), .c (iC (((w_toLock x1).tx).e)), .c (iC (((w_toLock x1).tx).n)), .c (sC (((w_toLock x1).range).lo)), .c (sC (((w_toLock x1).range).hi)), .c (bC ((w_toLock x1).ex))])] [(7, [.sl 6 ((s1.w7_0).map eLock)])]) [0, 3, 4, 14, 15, 20] (k_w_toLock x1 _ rfl) Try.call31 (by kernel_rfl) (by kernel_rfl) (by kernel_rfl) ?_
        obtain ⟨x2, ex2, h⟩ := bnd_e h
        refine ao_indexOwn (d := 21) (size := 6) (n0 := ((s1.w7_0).length)) (n := s1.v4) (p := [(7, 0)]) (rows := (s1.w7_0).map eLock) (st1 := mk 23 [(0, .one (.c (.sl 6 ((p0).map eLock)))), (3, .one (.so [] 7 0 ((s1.w7_0).length))), (4, iV s1.v4), (20, .agg [.c (iC (((w_toLock x1).tx).c)), .c (iC (((w_toLock x1).tx).e)), .c (iC (((w_toLock x1).tx).n)), .c (sC (((w_toLock x1).range).lo)), .c (sC (((w_toLock x1).range).hi)), .c (bC ((w_toLock x1).ex))]), (21, .one (.pl [(7, 0)] ((s1.v4).toNat) 0))] [(7, [.sl 6 ((s1.w7_0).map eLock)])]) [iC x2.tx.c, iC x2.tx.e, iC x2.tx.n, sC x2.range.lo, sC x2.range.hi, bC x2.ex] [0, 3, 4, 20, 21] tyOK (by kernel_rfl) (by simpa using getI_both ex2) (by exact get_map (getI_e ex2).2) (by kernel_rfl) (by kernel_rfl) ?_
        refine ao_storeAt (n := ((s1.v4).toNat)) (f := 0) (q := [(7, 0)]) (rows := (s1.w7_0).map eLock) (rows' := (s1.w7_0.set ((s1.v4).toNat) (w_toLock x1)).map eLock) (szs := []) (ts := [.c (iC (((w_toLock x1).tx).c)), .c (iC (((w_toLock x1).tx).e)), .c (iC (((w_toLock x1).tx).n)), .c (sC (((w_toLock x1).range).lo)), .c (sC (((w_toLock x1).range).hi)), .c (bC ((w_toLock x1).ex))]) (t1 := (mk 23 [(0, .one (.c (.sl 6 ((p0).map eLock)))), (3, .one (.so [] 7 0 ((s1.w7_0).length))), (4, iV s1.v4), (20, .agg [.c (iC (((w_toLock x1).tx).c)), .c (iC (((w_toLock x1).tx).e)), .c (iC (((w_toLock x1).tx).n)), .c (sC (((w_toLock x1).range).lo)), .c (sC (((w_toLock x1).range).hi)), .c (bC ((w_toLock x1).ex))]), (21, .one (.pl [(7, 0)] ((s1.v4).toNat) 0))] [(7, [.sl 6 ((s1.w7_0).map eLock)])]).t) (st1 := mk 23 [(0, .one (.c (.sl 6 ((p0).map eLock)))), (3, .one (.so [] 7 0 ((s1.w7_0).length))), (4, iV s1.v4)] [(7, [.sl 6 ((s1.w7_0.set ((s1.v4).toNat) (w_toLock x1)).map eLock)])]) [iC x2.tx.c, iC x2.tx.e, iC x2.tx.n, sC x2.range.lo, sC x2.range.hi, bC x2.ex] [0, 3, 4] tyOK (by kernel_rfl) (by exact get_map (getI_e ex2).2) (Nat.le_of_ble_eq_true rfl) (by kernel_rfl) (by exact set_map_row0 rfl) (by kernel_rfl) ?_
        refine ao_nil ?_
        refine a_run [0, 3, 4] tyOK (st1 := mk 23 [(0, .one (.c (.sl 6 ((p0).map eLock)))), (3, .one (.so [] 7 0 ((s1.w7_0).length))), (4, iV (IntKind.wrap .i64 (s1.v4 + 1)))] [(7, [.sl 6 ((s1.w7_0.set ((s1.v4).toNat) (w_toLock x1)).map eLock)])]) (by kernel_rfl) ?_
        obtain rfl := Option.some.inj h
        show ∃ _, _ ∧ Imp _ _ _
        refine ⟨_, rfl, ?_⟩
        refine imp_says 3 (t := .one (.so [] 7 0 ((s1.w7_0).length))) (t' := .one (.so [] 7 0 ((s1.w7_0.set ((s1.v4).toNat) (w_toLock x1)).length))) [0, 3, 4] (s1 := mk 23 [(0, .one (.c (.sl 6 ((p0).map eLock)))), (3, .one (.so [] 7 0 ((s1.w7_0.set ((s1.v4).toNat) (w_toLock x1)).length))), (4, iV (IntKind.wrap .i64 (s1.v4 + 1)))] [(7, [.sl 6 ((s1.w7_0.set ((s1.v4).toNat) (w_toLock x1)).map eLock)])]) (by kernel_rfl) (by simp) (by kernel_rfl) ?_
        exact imp_keepTo [0, 3, 4] (by kernel_rfl) (imp_done rfl)
      · replace h := cF h1 h
        refine a_exit ?_
        obtain rfl := Option.some.inj h
        obtain rfl := zy2 _ rfl
        show ∃ _, _ ∧ Imp _ _ _
        refine ⟨_, rfl, ?_⟩
        exact imp_keepTo [3] (by kernel_rfl) (imp_done rfl)
    intro j1 hj1
    replace h := ky1 _ hj1
    refine a_seq ?_
    refine a_run [2] tyOK (st1 := mk 23 [(2, .one (.so [] 7 0 ((j1).length)))] [(7, [.sl 6 ((j1).map eLock)])]) (by kernel_rfl) ?_
    refine a_ret ?_
    obtain rfl := Option.some.inj h
    exact end_own (ob := [(((j1).map eLock).length, (j1).length)]) (res' := .one (.so [] 0 0 ((j1).length))) (row' := [.sl 6 ((j1).map eLock)]) (by kernel_rfl) ⟨by simp, trivial⟩ (by first | rfl | simp) (by first | rfl | simp)

noncomputable def w_toLocks (p0 : Locks) : Option (Locks) :=
 bnd (w_toLockS p0.held) fun r1 =>
 bnd (w_toLockS p0.wait) fun r2 =>
 some ((⟨r1, r2⟩ : Locks))
set_option maxHeartbeats 4000000 in
/-- laws.toLocks -/
theorem k_w_toLocks (p0 : Locks) (v : Locks) (h : w_toLocks p0 = some v) : CallOK Try.prog 30 [.agg [.c (.sl 6 ((p0.held).map eLock)), .c (.sl 6 ((p0.wait).map eLock))]] (.agg [.so [] 0 0 ((v.held).length), .so [] 0 1 ((v.wait).length)]) [.sl 6 ((v.held).map eLock), .sl 6 ((v.wait).map eLock)] :=
  callOK tyOK Try.func30 rfl fun w S hS => by
    unfold w_toLocks at h
    refine a_seq ?_
    refine a_run [1, 2] tyOK (st1 := mk 13 [(1, .one (.pl [(1, 0)] 0 0)), (2, .one (.pl [(2, 0)] 0 0))] [(1, [.bx [.fz (.sl 6 ((p0.held).map eLock)), .fz (.sl 6 ((p0.wait).map eLock))]]), (2, [.bx [.sl 6 ([]), .sl 6 ([])]])]) (by kernel_rfl) ?_
    refine a_seq ?_
    refine a_run [1, 2, 3] tyOK (st1 := mk 13 [(1, .one (.pl [(1, 0)] 0 0)), (2, .one (.pl [(2, 0)] 0 0)), (3, .one (.pl [(3, 0)] 0 0))] [(1, [.bx [.fz (.sl 6 ((p0.held).map eLock)), .fz (.sl 6 ((p0.wait).map eLock))]]), (2, [.bx [.sl 6 ([]), .sl 6 ([])]]), (3, [.bx [.sl 6 ([]), .sl 6 ([])]])]) (by kernel_rfl) ?_
    refine a_seq ?_
    refine a_ops [0, 1, 2, 3, 4] (by kernel_rfl) ?_
    refine ao_some [0, 1] [2, 3, 4] [1, 2, 3, 5] tyOK (st1 := mk 13 [(1, .one (.pl [(1, 0)] 0 0)), (2, .one (.pl [(2, 0)] 0 0)), (3, .one (.pl [(3, 0)] 0 0)), (5, .one (.c (.sl 6 ((p0.held).map eLock))))] [(1, [.bx [.fz (.sl 6 ((p0.held).map eLock)), .fz (.sl 6 ((p0.wait).map eLock))]]), (2, [.bx [.sl 6 ([]), .sl 6 ([])]]), (3, [.bx [.sl 6 ([]), .sl 6 ([])]])]) (by kernel_rfl) ?_
    obtain ⟨r1, er1, h⟩ := bnd_e h
    refine ao_enter (f := 65) (d := 6) (A := [.one (.c (.sl 6 ((p0.held).map eLock)))]) (st1 := mk 13 [(1, .one (.pl [(1, 0)] 0 0)), (2, .one (.pl [(2, 0)] 0 0)), (3, .one (.pl [(3, 0)] 0 0)), (6, .one (.so [] 6 0 ((r1).length)))] [(1, [.bx [.fz (.sl 6 ((p0.held).map eLock)), .fz (.sl 6 ((p0.wait).map eLock))]]), (2, [.bx [.sl 6 ([]), .sl 6 ([])]]), (3, [.bx [.sl 6 ([]), .sl 6 ([])]]), (6, [.sl 6 ((r1).map eLock)])]) [1, 2, 3, 6] (k_w_toLockS p0.held r1 er1) Try.call65 (by kernel_rfl) (by kernel_rfl) (by kernel_rfl) ?_
    refine ao_some [3] [4] [1, 2, 3, 6, 7] tyOK (st1 := mk 13 [(1, .one (.pl [(1, 0)] 0 0)), (2, .one (.pl [(2, 0)] 0 0)), (3, .one (.pl [(3, 0)] 0 0)), (6, .one (.so [] 6 0 ((r1).length))), (7, .one (.pl [(3, 0)] 0 0))] [(1, [.bx [.fz (.sl 6 ((p0.held).map eLock)), .fz (.sl 6 ((p0.wait).map eLock))]]), (2, [.bx [.sl 6 ([]), .sl 6 ([])]]), (3, [.bx [.sl 6 ([]), .sl 6 ([])]]), (6, [.sl 6 ((r1).map eLock)])]) (by kernel_rfl) ?_
    refine ao_o (ob := [(((r1).map eLock).length, (r1).length)]) (st1 := mk 13 [(1, .one (.pl [(1, 0)] 0 0)), (2, .one (.pl [(2, 0)] 0 0)), (3, .one (.pl [(3, 0)] 0 0))] [(1, [.bx [.fz (.sl 6 ((p0.held).map eLock)), .fz (.sl 6 ((p0.wait).map eLock))]]), (2, [.bx [.sl 6 ([]), .sl 6 ([])]]), (3, [.bx [.sl 6 ((r1).map eLock), .sl 6 ([])]])]) [1, 2, 3] tyOK (by kernel_rfl) ⟨by simp, trivial⟩ ?_
    refine ao_nil ?_
    refine a_seq ?_
    refine a_ops [0, 1, 2, 3, 4] (by kernel_rfl) ?_
    refine ao_some [0, 1] [2, 3, 4] [2, 3, 9] tyOK (st1 := mk 13 [(2, .one (.pl [(2, 0)] 0 0)), (3, .one (.pl [(3, 0)] 0 0)), (9, .one (.c (.sl 6 ((p0.wait).map eLock))))] [(2, [.bx [.sl 6 ([]), .sl 6 ([])]]), (3, [.bx [.sl 6 ((r1).map eLock), .sl 6 ([])]])]) (by kernel_rfl) ?_
    obtain ⟨r2, er2, h⟩ := bnd_e h
    refine ao_enter (f := 65) (d := 10) (A := [.one (.c (.sl 6 ((p0.wait).map eLock)))]) (st1 := mk 13 [(2, .one (.pl [(2, 0)] 0 0)), (3, .one (.pl [(3, 0)] 0 0)), (10, .one (.so [] 10 0 ((r2).length)))] [(2, [.bx [.sl 6 ([]), .sl 6 ([])]]), (3, [.bx [.sl 6 ((r1).map eLock), .sl 6 ([])]]), (10, [.sl 6 ((r2).map eLock)])]) [2, 3, 10] (k_w_toLockS p0.wait r2 er2) Try.call65 (by kernel_rfl) (by kernel_rfl) (by kernel_rfl) ?_
    refine ao_some [3] [4] [2, 3, 10, 11] tyOK (st1 := mk 13 [(2, .one (.pl [(2, 0)] 0 0)), (3, .one (.pl [(3, 0)] 0 0)), (10, .one (.so [] 10 0 ((r2).length))), (11, .one (.pl [(3, 0)] 0 1))] [(2, [.bx [.sl 6 ([]), .sl 6 ([])]]), (3, [.bx [.sl 6 ((r1).map eLock), .sl 6 ([])]]), (10, [.sl 6 ((r2).map eLock)])]) (by kernel_rfl) ?_
    refine ao_o (ob := [(((r2).map eLock).length, (r2).length)]) (st1 := mk 13 [(2, .one (.pl [(2, 0)] 0 0)), (3, .one (.pl [(3, 0)] 0 0))] [(2, [.bx [.sl 6 ([]), .sl 6 ([])]]), (3, [.bx [.sl 6 ((r1).map eLock), .sl 6 ((r2).map eLock)]])]) [2, 3] tyOK (by kernel_rfl) ⟨by simp, trivial⟩ ?_
    refine ao_nil ?_
    refine a_seq ?_
    refine a_ops [0, 1] (by kernel_rfl) ?_
    refine ao_some [0] [1] [2, 12] tyOK (st1 := mk 13 [(2, .one (.pl [(2, 0)] 0 0)), (12, .agg [.so [(3, 0)] 0 0 (((r1).map eLock).length), .so [(3, 0)] 0 1 (((r2).map eLock).length)])] [(2, [.bx [.sl 6 ([]), .sl 6 ([])]]), (3, [.bx [.sl 6 ((r1).map eLock), .sl 6 ((r2).map eLock)]])]) (by kernel_rfl) ?_
    refine ao_o (ob := [(((r1).map eLock).length, ((r1).map eLock).length), (((r2).map eLock).length, ((r2).map eLock).length)]) (st1 := mk 13 [(2, .one (.pl [(2, 0)] 0 0))] [(2, [.bx [.sl 6 ((r1).map eLock), .sl 6 ((r2).map eLock)]])]) [2] tyOK (by kernel_rfl) ⟨by simp, by simp, trivial⟩ ?_
    refine ao_nil ?_
    refine a_ret ?_
    obtain rfl := Option.some.inj h
    exact end_own (ob := [(((r1).map eLock).length, ((r1).map eLock).length), (((r2).map eLock).length, ((r2).map eLock).length)]) (res' := .agg [.so [] 0 0 (((r1).map eLock).length), .so [] 0 1 (((r2).map eLock).length)]) (row' := [.sl 6 ((r1).map eLock), .sl 6 ((r2).map eLock)]) (by kernel_rfl) ⟨by simp, by simp, trivial⟩ (by first | rfl | simp) (by first | rfl | simp)

noncomputable def s_TxOk (p0 : Tx) : Bool :=
 bif (decide (p0.c ≥ 0)) then (bif (decide (p0.c ≤ 7)) then (bif (decide (p0.e ≥ 1)) then (bif (decide (p0.e ≤ 999)) then (bif (decide (p0.n ≥ 1)) then (decide (p0.n ≤ 999)) else false) else false) else false) else false) else false
set_option maxHeartbeats 4000000 in
/-- spec.TxOk -/
theorem k_s_TxOk (p0 : Tx) (v : Bool) (h : s_TxOk p0 = v) : CallOK Try.prog 82 [.agg [.c (iC p0.c), .c (iC p0.e), .c (iC p0.n)]] (bV v) [] :=
  callOK tyOK Try.func82 rfl fun w S hS => by
    unfold s_TxOk at h
    refine a_seq ?_
    refine a_run [1] tyOK (st1 := mk 31 [(1, .one (.pl [(1, 0)] 0 0))] [(1, [.bx [iC p0.c, iC p0.e, iC p0.n]])]) (by kernel_rfl) ?_
    refine a_seq ?_
    refine a_mid (mk 31 [(2, bV (bif (decide (p0.c ≥ 0)) then (bif (decide (p0.c ≤ 7)) then (bif (decide (p0.e ≥ 1)) then (bif (decide (p0.e ≤ 999)) then (bif (decide (p0.n ≥ 1)) then (decide (p0.n ≤ 999)) else false) else false) else false) else false) else false))] []) ?_ ?_
    · refine a_ops [0, 1, 2, 3, 4, 5, 6, 7, 8, 9, 10, 11, 12, 13, 14, 15, 16, 17, 18, 19, 20, 21, 22, 23, 24, 25, 26, 27, 28] (by kernel_rfl) ?_
      refine ao_some [0, 1, 2, 3] [4, 5, 6, 7, 8, 9, 10, 11, 12, 13, 14, 15, 16, 17, 18, 19, 20, 21, 22, 23, 24, 25, 26, 27, 28] [1, 6] tyOK (st1 := mk 31 [(1, .one (.pl [(1, 0)] 0 0)), (6, bV (decide (p0.c ≥ 0)))] [(1, [.bx [iC p0.c, iC p0.e, iC p0.n]])]) (by kernel_rfl) ?_
      rcases Bool.eq_false_or_eq_true (decide (p0.c ≥ 0)) with h1 | h1
      · refine ao_says (k := 6) (t := bV (decide (p0.c ≥ 0))) (t' := bV true) (st1 := mk 31 [(1, .one (.pl [(1, 0)] 0 0)), (6, bV true)] [(1, [.bx [iC p0.c, iC p0.e, iC p0.n]])]) (by kernel_rfl) (by rw [h1]) (by kernel_rfl) ?_
        refine ao_some [4, 5, 6, 7, 8] [9, 10, 11, 12, 13, 14, 15, 16, 17, 18, 19, 20, 21, 22, 23, 24, 25, 26, 27, 28] [1, 11] tyOK (st1 := mk 31 [(1, .one (.pl [(1, 0)] 0 0)), (11, bV (decide (p0.c ≤ 7)))] [(1, [.bx [iC p0.c, iC p0.e, iC p0.n]])]) (by kernel_rfl) ?_
        rcases Bool.eq_false_or_eq_true (decide (p0.c ≤ 7)) with h2 | h2
        · refine ao_says (k := 11) (t := bV (decide (p0.c ≤ 7))) (t' := bV true) (st1 := mk 31 [(1, .one (.pl [(1, 0)] 0 0)), (11, bV true)] [(1, [.bx [iC p0.c, iC p0.e, iC p0.n]])]) (by kernel_rfl) (by rw [h2]) (by kernel_rfl) ?_
          refine ao_some [9, 10, 11, 12, 13] [14, 15, 16, 17, 18, 19, 20, 21, 22, 23, 24, 25, 26, 27, 28] [1, 16] tyOK (st1 := mk 31 [(1, .one (.pl [(1, 0)] 0 0)), (16, bV (decide (p0.e ≥ 1)))] [(1, [.bx [iC p0.c, iC p0.e, iC p0.n]])]) (by kernel_rfl) ?_
          rcases Bool.eq_false_or_eq_true (decide (p0.e ≥ 1)) with h3 | h3
          · refine ao_says (k := 16) (t := bV (decide (p0.e ≥ 1))) (t' := bV true) (st1 := mk 31 [(1, .one (.pl [(1, 0)] 0 0)), (16, bV true)] [(1, [.bx [iC p0.c, iC p0.e, iC p0.n]])]) (by kernel_rfl) (by rw [h3]) (by kernel_rfl) ?_
            refine ao_some [14, 15, 16, 17, 18] [19, 20, 21, 22, 23, 24, 25, 26, 27, 28] [1, 21] tyOK (st1 := mk 31 [(1, .one (.pl [(1, 0)] 0 0)), (21, bV (decide (p0.e ≤ 999)))] [(1, [.bx [iC p0.c, iC p0.e, iC p0.n]])]) (by kernel_rfl) ?_
            rcases Bool.eq_false_or_eq_true (decide (p0.e ≤ 999)) with h4 | h4
            · refine ao_says (k := 21) (t := bV (decide (p0.e ≤ 999))) (t' := bV true) (st1 := mk 31 [(1, .one (.pl [(1, 0)] 0 0)), (21, bV true)] [(1, [.bx [iC p0.c, iC p0.e, iC p0.n]])]) (by kernel_rfl) (by rw [h4]) (by kernel_rfl) ?_
              refine ao_some [19, 20, 21, 22, 23] [24, 25, 26, 27, 28] [1, 26] tyOK (st1 := mk 31 [(1, .one (.pl [(1, 0)] 0 0)), (26, bV (decide (p0.n ≥ 1)))] [(1, [.bx [iC p0.c, iC p0.e, iC p0.n]])]) (by kernel_rfl) ?_
              rcases Bool.eq_false_or_eq_true (decide (p0.n ≥ 1)) with h5 | h5
              · refine ao_says (k := 26) (t := bV (decide (p0.n ≥ 1))) (t' := bV true) (st1 := mk 31 [(1, .one (.pl [(1, 0)] 0 0)), (26, bV true)] [(1, [.bx [iC p0.c, iC p0.e, iC p0.n]])]) (by kernel_rfl) (by rw [h5]) (by kernel_rfl) ?_
                refine ao_some [24, 25, 26, 27, 28] [] [2] tyOK (st1 := mk 31 [(2, bV (decide (p0.n ≤ 999)))] []) (by kernel_rfl) ?_
                refine ao_nil ?_
                show mk 31 [(2, bV (decide (p0.n ≤ 999)))] [] = mk 31 [(2, bV (bif (decide (p0.c ≥ 0)) then (bif (decide (p0.c ≤ 7)) then (bif (decide (p0.e ≥ 1)) then (bif (decide (p0.e ≤ 999)) then (bif (decide (p0.n ≥ 1)) then (decide (p0.n ≤ 999)) else false) else false) else false) else false) else false))] []
                first | rfl | (simp only [h1, h2, h3, h4, h5, cond_true, cond_false]) | (simp only [h1, h2, h3, h4, h5, cond_true, cond_false]; rfl)
              · refine ao_says (k := 26) (t := bV (decide (p0.n ≥ 1))) (t' := bV false) (st1 := mk 31 [(1, .one (.pl [(1, 0)] 0 0)), (26, bV false)] [(1, [.bx [iC p0.c, iC p0.e, iC p0.n]])]) (by kernel_rfl) (by rw [h5]) (by kernel_rfl) ?_
                refine ao_some [24, 25, 26, 27, 28] [] [2] tyOK (st1 := mk 31 [(2, bV false)] []) (by kernel_rfl) ?_
                refine ao_nil ?_
                show mk 31 [(2, bV false)] [] = mk 31 [(2, bV (bif (decide (p0.c ≥ 0)) then (bif (decide (p0.c ≤ 7)) then (bif (decide (p0.e ≥ 1)) then (bif (decide (p0.e ≤ 999)) then (bif (decide (p0.n ≥ 1)) then (decide (p0.n ≤ 999)) else false) else false) else false) else false) else false))] []
                first | rfl | (simp only [h1, h2, h3, h4, h5, cond_true, cond_false]) | (simp only [h1, h2, h3, h4, h5, cond_true, cond_false]; rfl)
            · refine ao_says (k := 21) (t := bV (decide (p0.e ≤ 999))) (t' := bV false) (st1 := mk 31 [(1, .one (.pl [(1, 0)] 0 0)), (21, bV false)] [(1, [.bx [iC p0.c, iC p0.e, iC p0.n]])]) (by kernel_rfl) (by rw [h4]) (by kernel_rfl) ?_
              refine ao_some [19, 20, 21, 22, 23, 24, 25, 26, 27, 28] [] [2] tyOK (st1 := mk 31 [(2, bV false)] []) (by kernel_rfl) ?_
              refine ao_nil ?_
              show mk 31 [(2, bV false)] [] = mk 31 [(2, bV (bif (decide (p0.c ≥ 0)) then (bif (decide (p0.c ≤ 7)) then (bif (decide (p0.e ≥ 1)) then (bif (decide (p0.e ≤ 999)) then (bif (decide (p0.n ≥ 1)) then (decide (p0.n ≤ 999)) else false) else false) else false) else false) else false))] []
              first | rfl | (simp only [h1, h2, h3, h4, cond_true, cond_false]) | (simp only [h1, h2, h3, h4, cond_true, cond_false]; rfl)
          · refine ao_says (k := 16) (t := bV (decide (p0.e ≥ 1))) (t' := bV false) (st1 := mk 31 [(1, .one (.pl [(1, 0)] 0 0)), (16, bV false)] [(1, [.bx [iC p0.c, iC p0.e, iC p0.n]])]) (by kernel_rfl) (by rw [h3]) (by kernel_rfl) ?_
            refine ao_some [14, 15, 16, 17, 18, 19, 20, 21, 22, 23, 24, 25, 26, 27, 28] [] [2] tyOK (st1 := mk 31 [(2, bV false)] []) (by kernel_rfl) ?_
            refine ao_nil ?_
            show mk 31 [(2, bV false)] [] = mk 31 [(2, bV (bif (decide (p0.c ≥ 0)) then (bif (decide (p0.c ≤ 7)) then (bif (decide (p0.e ≥ 1)) then (bif (decide (p0.e ≤ 999)) then (bif (decide (p0.n ≥ 1)) then (decide (p0.n ≤ 999)) else false) else false) else false) else false) else false))] []
            first | rfl | (simp only [h1, h2, h3, cond_true, cond_false]) | (simp only [h1, h2, h3, cond_true, cond_false]; rfl)
        · refine ao_says (k := 11) (t := bV (decide (p0.c ≤ 7))) (t' := bV false) (st1 := mk 31 [(1, .one (.pl [(1, 0)] 0 0)), (11, bV false)] [(1, [.bx [iC p0.c, iC p0.e, iC p0.n]])]) (by kernel_rfl) (by rw [h2]) (by kernel_rfl) ?_
          refine ao_some [9, 10, 11, 12, 13, 14, 15, 16, 17, 18, 19, 20, 21, 22, 23, 24, 25, 26, 27, 28] [] [2] tyOK (st1 := mk 31 [(2, bV false)] []) (by kernel_rfl) ?_
          refine ao_nil ?_
          show mk 31 [(2, bV false)] [] = mk 31 [(2, bV (bif (decide (p0.c ≥ 0)) then (bif (decide (p0.c ≤ 7)) then (bif (decide (p0.e ≥ 1)) then (bif (decide (p0.e ≤ 999)) then (bif (decide (p0.n ≥ 1)) then (decide (p0.n ≤ 999)) else false) else false) else false) else false) else false))] []
          first | rfl | (simp only [h1, h2, cond_true, cond_false]) | (simp only [h1, h2, cond_true, cond_false]; rfl)
      · refine ao_says (k := 6) (t := bV (decide (p0.c ≥ 0))) (t' := bV false) (st1 := mk 31 [(1, .one (.pl [(1, 0)] 0 0)), (6, bV false)] [(1, [.bx [iC p0.c, iC p0.e, iC p0.n]])]) (by kernel_rfl) (by rw [h1]) (by kernel_rfl) ?_
        refine ao_some [4, 5, 6, 7, 8, 9, 10, 11, 12, 13, 14, 15, 16, 17, 18, 19, 20, 21, 22, 23, 24, 25, 26, 27, 28] [] [2] tyOK (st1 := mk 31 [(2, bV false)] []) (by kernel_rfl) ?_
        refine ao_nil ?_
        show mk 31 [(2, bV false)] [] = mk 31 [(2, bV (bif (decide (p0.c ≥ 0)) then (bif (decide (p0.c ≤ 7)) then (bif (decide (p0.e ≥ 1)) then (bif (decide (p0.e ≤ 999)) then (bif (decide (p0.n ≥ 1)) then (decide (p0.n ≤ 999)) else false) else false) else false) else false) else false))] []
        first | rfl | (simp only [h1, cond_true, cond_false]) | (simp only [h1, cond_true, cond_false]; rfl)
    refine a_ret ?_
    obtain rfl := h
    exact end_eq (res' := bV (bif (decide (p0.c ≥ 0)) then (bif (decide (p0.c ≤ 7)) then (bif (decide (p0.e ≥ 1)) then (bif (decide (p0.e ≤ 999)) then (bif (decide (p0.n ≥ 1)) then (decide (p0.n ≤ 999)) else false) else false) else false) else false) else false)) (by kernel_rfl) (by first | rfl | simp)

end Go.Proofs.Ytijmnochaamllaa
namespace Go.Proofs.Ytijmnochaamllaa
open Go.Mv Go.RowKit
noncomputable def s_RangeOk (p0 : Range) : Bool :=
 bif (bif (decide (((p0.lo.size : Int)) > 17)) then true else (decide (((p0.hi.size : Int)) > 17))) then
 (false)
 else
 (bif ((p0.hi.toList == ((⟨#[]⟩ : ByteArray)).toList)) then true else (Op.bytesLess p0.lo.toList p0.hi.toList))
set_option maxHeartbeats 4000000 in
/-- spec.RangeOk -/
theorem k_s_RangeOk (p0 : Range) (v : Bool) (h : s_RangeOk p0 = v) : CallOK Try.prog 89 [.agg [.c (sC p0.lo), .c (sC p0.hi)]] (bV v) [] :=
  callOK tyOK Try.func89 rfl fun w S hS => by
    unfold s_RangeOk at h
    refine a_seq ?_
    refine a_run [1] tyOK (st1 := mk 23 [(1, .one (.pl [(1, 0)] 0 0))] [(1, [.bx [sC p0.lo, sC p0.hi]])]) (by kernel_rfl) ?_
    refine a_seq ?_
    refine a_seq ?_
    refine a_mid (mk 23 [(1, .one (.pl [(1, 0)] 0 0)), (12, bV (bif (decide (((p0.lo.size : Int)) > 17)) then true else (decide (((p0.hi.size : Int)) > 17))))] [(1, [.bx [sC p0.lo, sC p0.hi]])]) ?_ ?_
    · refine a_ops [0, 1, 2, 3, 4, 5, 6, 7, 8, 9] (by kernel_rfl) ?_
      refine ao_some [0, 1, 2, 3, 4] [5, 6, 7, 8, 9] [1, 7] tyOK (st1 := mk 23 [(1, .one (.pl [(1, 0)] 0 0)), (7, bV (decide (((p0.lo.size : Int)) > 17)))] [(1, [.bx [sC p0.lo, sC p0.hi]])]) (by kernel_rfl) ?_
      rcases Bool.eq_false_or_eq_true (decide (((p0.lo.size : Int)) > 17)) with h1 | h1
      · refine ao_says (k := 7) (t := bV (decide (((p0.lo.size : Int)) > 17))) (t' := bV true) (st1 := mk 23 [(1, .one (.pl [(1, 0)] 0 0)), (7, bV true)] [(1, [.bx [sC p0.lo, sC p0.hi]])]) (by kernel_rfl) (by rw [h1]) (by kernel_rfl) ?_
        refine ao_some [5, 6, 7, 8, 9] [] [1, 12] tyOK (st1 := mk 23 [(1, .one (.pl [(1, 0)] 0 0)), (12, bV true)] [(1, [.bx [sC p0.lo, sC p0.hi]])]) (by kernel_rfl) ?_
        refine ao_nil ?_
        show mk 23 [(1, .one (.pl [(1, 0)] 0 0)), (12, bV true)] [(1, [.bx [sC p0.lo, sC p0.hi]])] = mk 23 [(1, .one (.pl [(1, 0)] 0 0)), (12, bV (bif (decide (((p0.lo.size : Int)) > 17)) then true else (decide (((p0.hi.size : Int)) > 17))))] [(1, [.bx [sC p0.lo, sC p0.hi]])]
        first | rfl | (simp only [h1, cond_true, cond_false]) | (simp only [h1, cond_true, cond_false]; rfl)
      · refine ao_says (k := 7) (t := bV (decide (((p0.lo.size : Int)) > 17))) (t' := bV false) (st1 := mk 23 [(1, .one (.pl [(1, 0)] 0 0)), (7, bV false)] [(1, [.bx [sC p0.lo, sC p0.hi]])]) (by kernel_rfl) (by rw [h1]) (by kernel_rfl) ?_
        refine ao_some [5, 6, 7, 8, 9] [] [1, 12] tyOK (st1 := mk 23 [(1, .one (.pl [(1, 0)] 0 0)), (12, bV (decide (((p0.hi.size : Int)) > 17)))] [(1, [.bx [sC p0.lo, sC p0.hi]])]) (by kernel_rfl) ?_
        refine ao_nil ?_
        show mk 23 [(1, .one (.pl [(1, 0)] 0 0)), (12, bV (decide (((p0.hi.size : Int)) > 17)))] [(1, [.bx [sC p0.lo, sC p0.hi]])] = mk 23 [(1, .one (.pl [(1, 0)] 0 0)), (12, bV (bif (decide (((p0.lo.size : Int)) > 17)) then true else (decide (((p0.hi.size : Int)) > 17))))] [(1, [.bx [sC p0.lo, sC p0.hi]])]
        first | rfl | (simp only [h1, cond_true, cond_false]) | (simp only [h1, cond_true, cond_false]; rfl)
    refine a_cond (b := bif (decide (((p0.lo.size : Int)) > 17)) then true else (decide (((p0.hi.size : Int)) > 17))) (by kernel_rfl) (fun h1 => ?_) (fun h1 => ?_)
    · replace h := cT h1 h
      refine a_seq ?_
      refine a_run [2] tyOK (st1 := mk 23 [(2, bV false)] []) (by kernel_rfl) ?_
      refine a_ret ?_
      obtain rfl := h
      exact end_eq (res' := bV false) (by kernel_rfl) (by first | rfl | simp)
    · replace h := cF h1 h
      refine a_skip ?_
      refine a_seq ?_
      refine a_mid (mk 23 [(2, bV (bif ((p0.hi.toList == ((⟨#[]⟩ : ByteArray)).toList)) then true else (Op.bytesLess p0.lo.toList p0.hi.toList)))] []) ?_ ?_
      · refine a_ops [0, 1, 2, 3, 4, 5, 6, 7, 8, 9, 10] (by kernel_rfl) ?_
        refine ao_some [0, 1, 2, 3] [4, 5, 6, 7, 8, 9, 10] [1, 16] tyOK (st1 := mk 23 [(1, .one (.pl [(1, 0)] 0 0)), (16, bV ((p0.hi.toList == ((⟨#[]⟩ : ByteArray)).toList)))] [(1, [.bx [sC p0.lo, sC p0.hi]])]) (by kernel_rfl) ?_
        rcases Bool.eq_false_or_eq_true ((p0.hi.toList == ((⟨#[]⟩ : ByteArray)).toList)) with h2 | h2
        · refine ao_says (k := 16) (t := bV ((p0.hi.toList == ((⟨#[]⟩ : ByteArray)).toList))) (t' := bV true) (st1 := mk 23 [(1, .one (.pl [(1, 0)] 0 0)), (16, bV true)] [(1, [.bx [sC p0.lo, sC p0.hi]])]) (by kernel_rfl) (by rw [h2]) (by kernel_rfl) ?_
          refine ao_some [4, 5, 6, 7, 8, 9, 10] [] [2] tyOK (st1 := mk 23 [(2, bV true)] []) (by kernel_rfl) ?_
          refine ao_nil ?_
          show mk 23 [(2, bV true)] [] = mk 23 [(2, bV (bif ((p0.hi.toList == ((⟨#[]⟩ : ByteArray)).toList)) then true else (Op.bytesLess p0.lo.toList p0.hi.toList)))] []
          first | rfl | (simp only [h2, cond_true, cond_false]) | (simp only [h2, cond_true, cond_false]; rfl)
        · refine ao_says (k := 16) (t := bV ((p0.hi.toList == ((⟨#[]⟩ : ByteArray)).toList))) (t' := bV false) (st1 := mk 23 [(1, .one (.pl [(1, 0)] 0 0)), (16, bV false)] [(1, [.bx [sC p0.lo, sC p0.hi]])]) (by kernel_rfl) (by rw [h2]) (by kernel_rfl) ?_
          refine ao_some [4, 5, 6, 7, 8, 9, 10] [] [2] tyOK (st1 := mk 23 [(2, bV (Op.bytesLess p0.lo.toList p0.hi.toList))] []) (by kernel_rfl) ?_
          refine ao_nil ?_
          show mk 23 [(2, bV (Op.bytesLess p0.lo.toList p0.hi.toList))] [] = mk 23 [(2, bV (bif ((p0.hi.toList == ((⟨#[]⟩ : ByteArray)).toList)) then true else (Op.bytesLess p0.lo.toList p0.hi.toList)))] []
          first | rfl | (simp only [h2, cond_true, cond_false]) | (simp only [h2, cond_true, cond_false]; rfl)
      refine a_ret ?_
      obtain rfl := h
      exact end_eq (res' := bV (bif ((p0.hi.toList == ((⟨#[]⟩ : ByteArray)).toList)) then true else (Op.bytesLess p0.lo.toList p0.hi.toList))) (by kernel_rfl) (by first | rfl | simp)

noncomputable def s_l07LockOk (p0 : Lock) : Bool :=
 bif (s_TxOk p0.tx) then (s_RangeOk p0.range) else false
set_option maxHeartbeats 4000000 in
/-- spec.l07LockOk -/
theorem k_s_l07LockOk (p0 : Lock) (v : Bool) (h : s_l07LockOk p0 = v) : CallOK Try.prog 61 [.agg [.c (iC p0.tx.c), .c (iC p0.tx.e), .c (iC p0.tx.n), .c (sC p0.range.lo), .c (sC p0.range.hi), .c (bC p0.ex)]] (bV v) [] :=
  callOK tyOK Try.func61 rfl fun w S hS => by
    unfold s_l07LockOk at h
    refine a_seq ?_
    refine a_run [1] tyOK (st1 := mk 11 [(1, .one (.pl [(1, 0)] 0 0))] [(1, [.bx [iC p0.tx.c, iC p0.tx.e, iC p0.tx.n, sC p0.range.lo, sC p0.range.hi, bC p0.ex]])]) (by kernel_rfl) ?_
    refine a_seq ?_
    refine a_mid (mk 11 [(2, bV (bif (s_TxOk p0.tx) then (s_RangeOk p0.range) else false))] []) ?_ ?_
    · refine a_ops [0, 1, 2, 3, 4, 5, 6, 7, 8] (by kernel_rfl) ?_
      refine ao_some [0, 1] [2, 3, 4, 5, 6, 7, 8] [1, 4] tyOK (st1 := mk 11 [(1, .one (.pl [(1, 0)] 0 0)), (4, .agg [.c (iC p0.tx.c), .c (iC p0.tx.e), .c (iC p0.tx.n)])] [(1, [.bx [iC p0.tx.c, iC p0.tx.e, iC p0.tx.n, sC p0.range.lo, sC p0.range.hi, bC p0.ex]])]) (by kernel_rfl) ?_
      refine ao_enter (f := 82) (d := 5) (A := [.agg [.c (iC p0.tx.c), .c (iC p0.tx.e), .c (iC p0.tx.n)]]) (st1 := mk 11 [(1, .one (.pl [(1, 0)] 0 0)), (5, bV (s_TxOk p0.tx))] [(1, [.bx [iC p0.tx.c, iC p0.tx.e, iC p0.tx.n, sC p0.range.lo, sC p0.range.hi, bC p0.ex]])]) [1, 5] (k_s_TxOk p0.tx _ rfl) Try.call82 (by kernel_rfl) (by kernel_rfl) (by kernel_rfl) ?_
      refine ao_some [3] [4, 5, 6, 7, 8] [1, 6] tyOK (st1 := mk 11 [(1, .one (.pl [(1, 0)] 0 0)), (6, bV (s_TxOk p0.tx))] [(1, [.bx [iC p0.tx.c, iC p0.tx.e, iC p0.tx.n, sC p0.range.lo, sC p0.range.hi, bC p0.ex]])]) (by kernel_rfl) ?_
      rcases Bool.eq_false_or_eq_true (s_TxOk p0.tx) with h1 | h1
      · refine ao_says (k := 6) (t := bV (s_TxOk p0.tx)) (t' := bV true) (st1 := mk 11 [(1, .one (.pl [(1, 0)] 0 0)), (6, bV true)] [(1, [.bx [iC p0.tx.c, iC p0.tx.e, iC p0.tx.n, sC p0.range.lo, sC p0.range.hi, bC p0.ex]])]) (by kernel_rfl) (by rw [h1]) (by kernel_rfl) ?_
        refine ao_some [4, 5] [6, 7, 8] [6, 8] tyOK (st1 := mk 11 [(6, bV true), (8, .agg [.c (sC p0.range.lo), .c (sC p0.range.hi)])] []) (by kernel_rfl) ?_
        refine ao_enter (f := 89) (d := 9) (A := [.agg [.c (sC p0.range.lo), .c (sC p0.range.hi)]]) (st1 := mk 11 [(6, bV true), (9, bV (s_RangeOk p0.range))] []) [6, 9] (k_s_RangeOk p0.range _ rfl) Try.call89 (by kernel_rfl) (by kernel_rfl) (by kernel_rfl) ?_
        refine ao_some [7, 8] [] [2] tyOK (st1 := mk 11 [(2, bV (s_RangeOk p0.range))] []) (by kernel_rfl) ?_
        refine ao_nil ?_
        show mk 11 [(2, bV (s_RangeOk p0.range))] [] = mk 11 [(2, bV (bif (s_TxOk p0.tx) then (s_RangeOk p0.range) else false))] []
        first | rfl | (simp only [h1, cond_true, cond_false]) | (simp only [h1, cond_true, cond_false]; rfl)
      · refine ao_says (k := 6) (t := bV (s_TxOk p0.tx)) (t' := bV false) (st1 := mk 11 [(1, .one (.pl [(1, 0)] 0 0)), (6, bV false)] [(1, [.bx [iC p0.tx.c, iC p0.tx.e, iC p0.tx.n, sC p0.range.lo, sC p0.range.hi, bC p0.ex]])]) (by kernel_rfl) (by rw [h1]) (by kernel_rfl) ?_
        refine ao_some [4, 5, 6, 7, 8] [] [2] tyOK (st1 := mk 11 [(2, bV false)] []) (by kernel_rfl) ?_
        refine ao_nil ?_
        show mk 11 [(2, bV false)] [] = mk 11 [(2, bV (bif (s_TxOk p0.tx) then (s_RangeOk p0.range) else false))] []
        first | rfl | (simp only [h1, cond_true, cond_false]) | (simp only [h1, cond_true, cond_false]; rfl)
    refine a_ret ?_
    obtain rfl := h
    exact end_eq (res' := bV (bif (s_TxOk p0.tx) then (s_RangeOk p0.range) else false)) (by kernel_rfl) (by first | rfl | simp)

noncomputable def s_RangeBoth (p0 : Range) (p1 : Range) : Option (Range × Bool) :=
 bif (bif (!(s_RangeOk p0)) then true else (!(s_RangeOk p1))) then
 (some (((⟨(⟨#[]⟩ : ByteArray), (⟨#[]⟩ : ByteArray)⟩ : Range), false)))
 else
 (bnd (bif (!(Op.bytesLess p1.lo.toList p0.lo.toList || p1.lo.toList == p0.lo.toList)) then
 (some p1.lo)
 else
 (some p0.lo)) fun j1 =>
 bnd (bif (bif ((p0.hi.toList == ((⟨#[]⟩ : ByteArray)).toList)) then true else (bif (!(p1.hi.toList == ((⟨#[]⟩ : ByteArray)).toList)) then (Op.bytesLess p1.hi.toList p0.hi.toList) else false)) then
 (some p1.hi)
 else
 (some p0.hi)) fun j2 =>
 bif (!(s_RangeOk ((⟨j1, j2⟩ : Range)))) then
 (some (((⟨(⟨#[]⟩ : ByteArray), (⟨#[]⟩ : ByteArray)⟩ : Range), false)))
 else
 (some (((⟨j1, j2⟩ : Range), true))))
set_option maxHeartbeats 4000000 in
/-- spec.RangeBoth -/
theorem k_s_RangeBoth (p0 : Range) (p1 : Range) (v : Range × Bool) (h : s_RangeBoth p0 p1 = some v) : CallOK Try.prog 104 [.agg [.c (sC p0.lo), .c (sC p0.hi)], .agg [.c (sC p1.lo), .c (sC p1.hi)]] (.tup [.agg [.c (sC v.1.lo), .c (sC v.1.hi)], .one (.c (bC v.2))]) [] :=
  callOK tyOK Try.func104 rfl fun w S hS => by
    unfold s_RangeBoth at h
    refine a_seq ?_
    refine a_run [2, 3, 4] tyOK (st1 := mk 46 [(2, .one (.pl [(2, 0)] 0 0)), (3, .one (.pl [(3, 0)] 0 0)), (4, .one (.pl [(4, 0)] 0 0))] [(2, [.bx [sC p0.lo, sC p0.hi]]), (3, [.bx [sC p1.lo, sC p1.hi]]), (4, [.bx [sC ((⟨#[]⟩ : ByteArray)), sC ((⟨#[]⟩ : ByteArray))]])]) (by kernel_rfl) ?_
    refine a_seq ?_
    refine a_seq ?_
    refine a_mid (mk 46 [(2, .one (.pl [(2, 0)] 0 0)), (3, .one (.pl [(3, 0)] 0 0)), (4, .one (.pl [(4, 0)] 0 0)), (13, bV (bif (!(s_RangeOk p0)) then true else (!(s_RangeOk p1))))] [(2, [.bx [sC p0.lo, sC p0.hi]]), (3, [.bx [sC p1.lo, sC p1.hi]]), (4, [.bx [sC ((⟨#[]⟩ : ByteArray)), sC ((⟨#[]⟩ : ByteArray))]])]) ?_ ?_
    · refine a_ops [0, 1, 2, 3, 4, 5, 6, 7] (by kernel_rfl) ?_
      refine ao_some [0] [1, 2, 3, 4, 5, 6, 7] [2, 3, 4, 6] tyOK (st1 := mk 46 [(2, .one (.pl [(2, 0)] 0 0)), (3, .one (.pl [(3, 0)] 0 0)), (4, .one (.pl [(4, 0)] 0 0)), (6, .agg [.c (sC p0.lo), .c (sC p0.hi)])] [(2, [.bx [sC p0.lo, sC p0.hi]]), (3, [.bx [sC p1.lo, sC p1.hi]]), (4, [.bx [sC ((⟨#[]⟩ : ByteArray)), sC ((⟨#[]⟩ : ByteArray))]])]) (by kernel_rfl) ?_
      refine ao_enter (f := 89) (d := 7) (A := [.agg [.c (sC p0.lo), .c (sC p0.hi)]]) (st1 := mk 46 [(2, .one (.pl [(2, 0)] 0 0)), (3, .one (.pl [(3, 0)] 0 0)), (4, .one (.pl [(4, 0)] 0 0)), (7, bV (s_RangeOk p0))] [(2, [.bx [sC p0.lo, sC p0.hi]]), (3, [.bx [sC p1.lo, sC p1.hi]]), (4, [.bx [sC ((⟨#[]⟩ : ByteArray)), sC ((⟨#[]⟩ : ByteArray))]])]) [2, 3, 4, 7] (k_s_RangeOk p0 _ rfl) Try.call89 (by kernel_rfl) (by kernel_rfl) (by kernel_rfl) ?_
      refine ao_some [2, 3] [4, 5, 6, 7] [2, 3, 4, 9] tyOK (st1 := mk 46 [(2, .one (.pl [(2, 0)] 0 0)), (3, .one (.pl [(3, 0)] 0 0)), (4, .one (.pl [(4, 0)] 0 0)), (9, bV (!(s_RangeOk p0)))] [(2, [.bx [sC p0.lo, sC p0.hi]]), (3, [.bx [sC p1.lo, sC p1.hi]]), (4, [.bx [sC ((⟨#[]⟩ : ByteArray)), sC ((⟨#[]⟩ : ByteArray))]])]) (by kernel_rfl) ?_
      rcases Bool.eq_false_or_eq_true (!(s_RangeOk p0)) with h1 | h1
      · refine ao_says (k := 9) (t := bV (!(s_RangeOk p0))) (t' := bV true) (st1 := mk 46 [(2, .one (.pl [(2, 0)] 0 0)), (3, .one (.pl [(3, 0)] 0 0)), (4, .one (.pl [(4, 0)] 0 0)), (9, bV true)] [(2, [.bx [sC p0.lo, sC p0.hi]]), (3, [.bx [sC p1.lo, sC p1.hi]]), (4, [.bx [sC ((⟨#[]⟩ : ByteArray)), sC ((⟨#[]⟩ : ByteArray))]])]) (by kernel_rfl) (by rw [h1]) (by kernel_rfl) ?_
        refine ao_some [4, 5, 6, 7] [] [2, 3, 4, 13] tyOK (st1 := mk 46 [(2, .one (.pl [(2, 0)] 0 0)), (3, .one (.pl [(3, 0)] 0 0)), (4, .one (.pl [(4, 0)] 0 0)), (13, bV true)] [(2, [.bx [sC p0.lo, sC p0.hi]]), (3, [.bx [sC p1.lo, sC p1.hi]]), (4, [.bx [sC ((⟨#[]⟩ : ByteArray)), sC ((⟨#[]⟩ : ByteArray))]])]) (by kernel_rfl) ?_
        refine ao_nil ?_
        show mk 46 [(2, .one (.pl [(2, 0)] 0 0)), (3, .one (.pl [(3, 0)] 0 0)), (4, .one (.pl [(4, 0)] 0 0)), (13, bV true)] [(2, [.bx [sC p0.lo, sC p0.hi]]), (3, [.bx [sC p1.lo, sC p1.hi]]), (4, [.bx [sC ((⟨#[]⟩ : ByteArray)), sC ((⟨#[]⟩ : ByteArray))]])] = mk 46 [(2, .one (.pl [(2, 0)] 0 0)), (3, .one (.pl [(3, 0)] 0 0)), (4, .one (.pl [(4, 0)] 0 0)), (13, bV (bif (!(s_RangeOk p0)) then true else (!(s_RangeOk p1))))] [(2, [.bx [sC p0.lo, sC p0.hi]]), (3, [.bx [sC p1.lo, sC p1.hi]]), (4, [.bx [sC ((⟨#[]⟩ : ByteArray)), sC ((⟨#[]⟩ : ByteArray))]])]
        first | rfl | (simp only [h1, cond_true, cond_false]) | (simp only [h1, cond_true, cond_false]; rfl)
      · refine ao_says (k := 9) (t := bV (!(s_RangeOk p0))) (t' := bV false) (st1 := mk 46 [(2, .one (.pl [(2, 0)] 0 0)), (3, .one (.pl [(3, 0)] 0 0)), (4, .one (.pl [(4, 0)] 0 0)), (9, bV false)] [(2, [.bx [sC p0.lo, sC p0.hi]]), (3, [.bx [sC p1.lo, sC p1.hi]]), (4, [.bx [sC ((⟨#[]⟩ : ByteArray)), sC ((⟨#[]⟩ : ByteArray))]])]) (by kernel_rfl) (by rw [h1]) (by kernel_rfl) ?_
        refine ao_some [4] [5, 6, 7] [2, 3, 4, 9, 10] tyOK (st1 := mk 46 [(2, .one (.pl [(2, 0)] 0 0)), (3, .one (.pl [(3, 0)] 0 0)), (4, .one (.pl [(4, 0)] 0 0)), (9, bV false), (10, .agg [.c (sC p1.lo), .c (sC p1.hi)])] [(2, [.bx [sC p0.lo, sC p0.hi]]), (3, [.bx [sC p1.lo, sC p1.hi]]), (4, [.bx [sC ((⟨#[]⟩ : ByteArray)), sC ((⟨#[]⟩ : ByteArray))]])]) (by kernel_rfl) ?_
        refine ao_enter (f := 89) (d := 11) (A := [.agg [.c (sC p1.lo), .c (sC p1.hi)]]) (st1 := mk 46 [(2, .one (.pl [(2, 0)] 0 0)), (3, .one (.pl [(3, 0)] 0 0)), (4, .one (.pl [(4, 0)] 0 0)), (9, bV false), (11, bV (s_RangeOk p1))] [(2, [.bx [sC p0.lo, sC p0.hi]]), (3, [.bx [sC p1.lo, sC p1.hi]]), (4, [.bx [sC ((⟨#[]⟩ : ByteArray)), sC ((⟨#[]⟩ : ByteArray))]])]) [2, 3, 4, 9, 11] (k_s_RangeOk p1 _ rfl) Try.call89 (by kernel_rfl) (by kernel_rfl) (by kernel_rfl) ?_
        refine ao_some [6, 7] [] [2, 3, 4, 13] tyOK (st1 := mk 46 [(2, .one (.pl [(2, 0)] 0 0)), (3, .one (.pl [(3, 0)] 0 0)), (4, .one (.pl [(4, 0)] 0 0)), (13, bV (!(s_RangeOk p1)))] [(2, [.bx [sC p0.lo, sC p0.hi]]), (3, [.bx [sC p1.lo, sC p1.hi]]), (4, [.bx [sC ((⟨#[]⟩ : ByteArray)), sC ((⟨#[]⟩ : ByteArray))]])]) (by kernel_rfl) ?_
        refine ao_nil ?_
        show mk 46 [(2, .one (.pl [(2, 0)] 0 0)), (3, .one (.pl [(3, 0)] 0 0)), (4, .one (.pl [(4, 0)] 0 0)), (13, bV (!(s_RangeOk p1)))] [(2, [.bx [sC p0.lo, sC p0.hi]]), (3, [.bx [sC p1.lo, sC p1.hi]]), (4, [.bx [sC ((⟨#[]⟩ : ByteArray)), sC ((⟨#[]⟩ : ByteArray))]])] = mk 46 [(2, .one (.pl [(2, 0)] 0 0)), (3, .one (.pl [(3, 0)] 0 0)), (4, .one (.pl [(4, 0)] 0 0)), (13, bV (bif (!(s_RangeOk p0)) then true else (!(s_RangeOk p1))))] [(2, [.bx [sC p0.lo, sC p0.hi]]), (3, [.bx [sC p1.lo, sC p1.hi]]), (4, [.bx [sC ((⟨#[]⟩ : ByteArray)), sC ((⟨#[]⟩ : ByteArray))]])]
        first | rfl | (simp only [h1, cond_true, cond_false]) | (simp only [h1, cond_true, cond_false]; rfl)
    refine a_cond (b := bif (!(s_RangeOk p0)) then true else (!(s_RangeOk p1))) (by kernel_rfl) (fun h1 => ?_) (fun h1 => ?_)
    · replace h := cT h1 h
      refine a_seq ?_
      refine a_run [4, 5] tyOK (st1 := mk 46 [(4, .one (.pl [(4, 0)] 0 0)), (5, bV false)] [(4, [.bx [sC ((⟨#[]⟩ : ByteArray)), sC ((⟨#[]⟩ : ByteArray))]])]) (by kernel_rfl) ?_
      refine a_ret ?_
      obtain rfl := Option.some.inj h
      exact end_eq (res' := .tup [.agg [.c (sC ((⟨#[]⟩ : ByteArray))), .c (sC ((⟨#[]⟩ : ByteArray)))], .one (.c (bC false))]) (by kernel_rfl) (by first | rfl | simp)
    · replace h := cF h1 h
      refine a_skip ?_
      refine a_seq ?_
      refine a_seq ?_
      refine a_run [2, 3, 4, 19] tyOK (st1 := mk 46 [(2, .one (.pl [(2, 0)] 0 0)), (3, .one (.pl [(3, 0)] 0 0)), (4, .one (.pl [(4, 0)] 0 0)), (19, bV (!(Op.bytesLess p1.lo.toList p0.lo.toList || p1.lo.toList == p0.lo.toList)))] [(2, [.bx [sC p0.lo, sC p0.hi]]), (3, [.bx [sC p1.lo, sC p1.hi]]), (4, [.bx [sC ((⟨#[]⟩ : ByteArray)), sC ((⟨#[]⟩ : ByteArray))]])]) (by kernel_rfl) ?_
      obtain ⟨y1, h, ky1⟩ := bndJ_e h
      refine a_joinT (ι := ByteArray) (fun j => mk 46 [(2, .one (.pl [(2, 0)] 0 0)), (3, .one (.pl [(3, 0)] 0 0)), (4, .one (.pl [(4, 0)] 0 0))] [(2, [.bx [sC j, sC p0.hi]]), (3, [.bx [sC p1.lo, sC p1.hi]]), (4, [.bx [sC ((⟨#[]⟩ : ByteArray)), sC ((⟨#[]⟩ : ByteArray))]])]) (fun j => y1 = j) ?_ ?_
      · refine a_cond (b := !(Op.bytesLess p1.lo.toList p0.lo.toList || p1.lo.toList == p0.lo.toList)) (by kernel_rfl) (fun h2 => ?_) (fun h2 => ?_)
        · replace h := cT h2 h
          refine a_run [2, 3, 4] tyOK (st1 := mk 46 [(2, .one (.pl [(2, 0)] 0 0)), (3, .one (.pl [(3, 0)] 0 0)), (4, .one (.pl [(4, 0)] 0 0))] [(2, [.bx [sC p1.lo, sC p0.hi]]), (3, [.bx [sC p1.lo, sC p1.hi]]), (4, [.bx [sC ((⟨#[]⟩ : ByteArray)), sC ((⟨#[]⟩ : ByteArray))]])]) (by kernel_rfl) ?_
          obtain rfl := Option.some.inj h
          show ∃ _, _ ∧ Imp _ _ _
          refine ⟨_, rfl, ?_⟩
          exact imp_keepTo [2, 3, 4] (by kernel_rfl) (imp_done rfl)
        · replace h := cF h2 h
          refine a_skip ?_
          obtain rfl := Option.some.inj h
          show ∃ _, _ ∧ Imp _ _ _
          refine ⟨_, rfl, ?_⟩
          exact imp_keepTo [2, 3, 4] (by kernel_rfl) (imp_done rfl)
      intro j1 hj1
      replace h := ky1 _ hj1
      refine a_seq ?_
      refine a_seq ?_
      refine a_mid (mk 46 [(2, .one (.pl [(2, 0)] 0 0)), (3, .one (.pl [(3, 0)] 0 0)), (4, .one (.pl [(4, 0)] 0 0)), (37, bV (bif ((p0.hi.toList == ((⟨#[]⟩ : ByteArray)).toList)) then true else (bif (!(p1.hi.toList == ((⟨#[]⟩ : ByteArray)).toList)) then (Op.bytesLess p1.hi.toList p0.hi.toList) else false)))] [(2, [.bx [sC j1, sC p0.hi]]), (3, [.bx [sC p1.lo, sC p1.hi]]), (4, [.bx [sC ((⟨#[]⟩ : ByteArray)), sC ((⟨#[]⟩ : ByteArray))]])]) ?_ ?_
      · refine a_ops [0, 1, 2, 3, 4, 5, 6, 7, 8, 9, 10, 11, 12, 13, 14] (by kernel_rfl) ?_
        refine ao_some [0, 1, 2, 3] [4, 5, 6, 7, 8, 9, 10, 11, 12, 13, 14] [2, 3, 4, 26] tyOK (st1 := mk 46 [(2, .one (.pl [(2, 0)] 0 0)), (3, .one (.pl [(3, 0)] 0 0)), (4, .one (.pl [(4, 0)] 0 0)), (26, bV ((p0.hi.toList == ((⟨#[]⟩ : ByteArray)).toList)))] [(2, [.bx [sC j1, sC p0.hi]]), (3, [.bx [sC p1.lo, sC p1.hi]]), (4, [.bx [sC ((⟨#[]⟩ : ByteArray)), sC ((⟨#[]⟩ : ByteArray))]])]) (by kernel_rfl) ?_
        rcases Bool.eq_false_or_eq_true ((p0.hi.toList == ((⟨#[]⟩ : ByteArray)).toList)) with h3 | h3
        · refine ao_says (k := 26) (t := bV ((p0.hi.toList == ((⟨#[]⟩ : ByteArray)).toList))) (t' := bV true) (st1 := mk 46 [(2, .one (.pl [(2, 0)] 0 0)), (3, .one (.pl [(3, 0)] 0 0)), (4, .one (.pl [(4, 0)] 0 0)), (26, bV true)] [(2, [.bx [sC j1, sC p0.hi]]), (3, [.bx [sC p1.lo, sC p1.hi]]), (4, [.bx [sC ((⟨#[]⟩ : ByteArray)), sC ((⟨#[]⟩ : ByteArray))]])]) (by kernel_rfl) (by rw [h3]) (by kernel_rfl) ?_
          refine ao_some [4, 5, 6, 7, 8, 9, 10, 11, 12, 13, 14] [] [2, 3, 4, 37] tyOK (st1 := mk 46 [(2, .one (.pl [(2, 0)] 0 0)), (3, .one (.pl [(3, 0)] 0 0)), (4, .one (.pl [(4, 0)] 0 0)), (37, bV true)] [(2, [.bx [sC j1, sC p0.hi]]), (3, [.bx [sC p1.lo, sC p1.hi]]), (4, [.bx [sC ((⟨#[]⟩ : ByteArray)), sC ((⟨#[]⟩ : ByteArray))]])]) (by kernel_rfl) ?_
          refine ao_nil ?_
          show mk 46 [(2, .one (.pl [(2, 0)] 0 0)), (3, .one (.pl [(3, 0)] 0 0)), (4, .one (.pl [(4, 0)] 0 0)), (37, bV true)] [(2, [.bx [sC j1, sC p0.hi]]), (3, [.bx [sC p1.lo, sC p1.hi]]), (4, [.bx [sC ((⟨#[]⟩ : ByteArray)), sC ((⟨#[]⟩ : ByteArray))]])] = mk 46 [(2, .one (.pl [(2, 0)] 0 0)), (3, .one (.pl [(3, 0)] 0 0)), (4, .one (.pl [(4, 0)] 0 0)), (37, bV (bif ((p0.hi.toList == ((⟨#[]⟩ : ByteArray)).toList)) then true else (bif (!(p1.hi.toList == ((⟨#[]⟩ : ByteArray)).toList)) then (Op.bytesLess p1.hi.toList p0.hi.toList) else false)))] [(2, [.bx [sC j1, sC p0.hi]]), (3, [.bx [sC p1.lo, sC p1.hi]]), (4, [.bx [sC ((⟨#[]⟩ : ByteArray)), sC ((⟨#[]⟩ : ByteArray))]])]
          first | rfl | (simp only [h3, cond_true, cond_false]) | (simp only [h3, cond_true, cond_false]; rfl)
        · refine ao_says (k := 26) (t := bV ((p0.hi.toList == ((⟨#[]⟩ : ByteArray)).toList))) (t' := bV false) (st1 := mk 46 [(2, .one (.pl [(2, 0)] 0 0)), (3, .one (.pl [(3, 0)] 0 0)), (4, .one (.pl [(4, 0)] 0 0)), (26, bV false)] [(2, [.bx [sC j1, sC p0.hi]]), (3, [.bx [sC p1.lo, sC p1.hi]]), (4, [.bx [sC ((⟨#[]⟩ : ByteArray)), sC ((⟨#[]⟩ : ByteArray))]])]) (by kernel_rfl) (by rw [h3]) (by kernel_rfl) ?_
          refine ao_some [4, 5, 6, 7] [8, 9, 10, 11, 12, 13, 14] [2, 3, 4, 26, 30] tyOK (st1 := mk 46 [(2, .one (.pl [(2, 0)] 0 0)), (3, .one (.pl [(3, 0)] 0 0)), (4, .one (.pl [(4, 0)] 0 0)), (26, bV false), (30, bV (!(p1.hi.toList == ((⟨#[]⟩ : ByteArray)).toList)))] [(2, [.bx [sC j1, sC p0.hi]]), (3, [.bx [sC p1.lo, sC p1.hi]]), (4, [.bx [sC ((⟨#[]⟩ : ByteArray)), sC ((⟨#[]⟩ : ByteArray))]])]) (by kernel_rfl) ?_
          rcases Bool.eq_false_or_eq_true (!(p1.hi.toList == ((⟨#[]⟩ : ByteArray)).toList)) with h4 | h4
          · refine ao_says (k := 30) (t := bV (!(p1.hi.toList == ((⟨#[]⟩ : ByteArray)).toList))) (t' := bV true) (st1 := mk 46 [(2, .one (.pl [(2, 0)] 0 0)), (3, .one (.pl [(3, 0)] 0 0)), (4, .one (.pl [(4, 0)] 0 0)), (26, bV false), (30, bV true)] [(2, [.bx [sC j1, sC p0.hi]]), (3, [.bx [sC p1.lo, sC p1.hi]]), (4, [.bx [sC ((⟨#[]⟩ : ByteArray)), sC ((⟨#[]⟩ : ByteArray))]])]) (by kernel_rfl) (by rw [h4]) (by kernel_rfl) ?_
            refine ao_some [8, 9, 10, 11, 12, 13, 14] [] [2, 3, 4, 37] tyOK (st1 := mk 46 [(2, .one (.pl [(2, 0)] 0 0)), (3, .one (.pl [(3, 0)] 0 0)), (4, .one (.pl [(4, 0)] 0 0)), (37, bV (Op.bytesLess p1.hi.toList p0.hi.toList))] [(2, [.bx [sC j1, sC p0.hi]]), (3, [.bx [sC p1.lo, sC p1.hi]]), (4, [.bx [sC ((⟨#[]⟩ : ByteArray)), sC ((⟨#[]⟩ : ByteArray))]])]) (by kernel_rfl) ?_
            refine ao_nil ?_
            show mk 46 [(2, .one (.pl [(2, 0)] 0 0)), (3, .one (.pl [(3, 0)] 0 0)), (4, .one (.pl [(4, 0)] 0 0)), (37, bV (Op.bytesLess p1.hi.toList p0.hi.toList))] [(2, [.bx [sC j1, sC p0.hi]]), (3, [.bx [sC p1.lo, sC p1.hi]]), (4, [.bx [sC ((⟨#[]⟩ : ByteArray)), sC ((⟨#[]⟩ : ByteArray))]])] = mk 46 [(2, .one (.pl [(2, 0)] 0 0)), (3, .one (.pl [(3, 0)] 0 0)), (4, .one (.pl [(4, 0)] 0 0)), (37, bV (bif ((p0.hi.toList == ((⟨#[]⟩ : ByteArray)).toList)) then true else (bif (!(p1.hi.toList == ((⟨#[]⟩ : ByteArray)).toList)) then (Op.bytesLess p1.hi.toList p0.hi.toList) else false)))] [(2, [.bx [sC j1, sC p0.hi]]), (3, [.bx [sC p1.lo, sC p1.hi]]), (4, [.bx [sC ((⟨#[]⟩ : ByteArray)), sC ((⟨#[]⟩ : ByteArray))]])]
            first | rfl | (simp only [h3, h4, cond_true, cond_false]) | (simp only [h3, h4, cond_true, cond_false]; rfl)
          · refine ao_says (k := 30) (t := bV (!(p1.hi.toList == ((⟨#[]⟩ : ByteArray)).toList))) (t' := bV false) (st1 := mk 46 [(2, .one (.pl [(2, 0)] 0 0)), (3, .one (.pl [(3, 0)] 0 0)), (4, .one (.pl [(4, 0)] 0 0)), (26, bV false), (30, bV false)] [(2, [.bx [sC j1, sC p0.hi]]), (3, [.bx [sC p1.lo, sC p1.hi]]), (4, [.bx [sC ((⟨#[]⟩ : ByteArray)), sC ((⟨#[]⟩ : ByteArray))]])]) (by kernel_rfl) (by rw [h4]) (by kernel_rfl) ?_
            refine ao_some [8, 9, 10, 11, 12, 13, 14] [] [2, 3, 4, 37] tyOK (st1 := mk 46 [(2, .one (.pl [(2, 0)] 0 0)), (3, .one (.pl [(3, 0)] 0 0)), (4, .one (.pl [(4, 0)] 0 0)), (37, bV false)] [(2, [.bx [sC j1, sC p0.hi]]), (3, [.bx [sC p1.lo, sC p1.hi]]), (4, [.bx [sC ((⟨#[]⟩ : ByteArray)), sC ((⟨#[]⟩ : ByteArray))]])]) (by kernel_rfl) ?_
            refine ao_nil ?_
            show mk 46 [(2, .one (.pl [(2, 0)] 0 0)), (3, .one (.pl [(3, 0)] 0 0)), (4, .one (.pl [(4, 0)] 0 0)), (37, bV false)] [(2, [.bx [sC j1, sC p0.hi]]), (3, [.bx [sC p1.lo, sC p1.hi]]), (4, [.bx [sC ((⟨#[]⟩ : ByteArray)), sC ((⟨#[]⟩ : ByteArray))]])] = mk 46 [(2, .one (.pl [(2, 0)] 0 0)), (3, .one (.pl [(3, 0)] 0 0)), (4, .one (.pl [(4, 0)] 0 0)), (37, bV (bif ((p0.hi.toList == ((⟨#[]⟩ : ByteArray)).toList)) then true else (bif (!(p1.hi.toList == ((⟨#[]⟩ : ByteArray)).toList)) then (Op.bytesLess p1.hi.toList p0.hi.toList) else false)))] [(2, [.bx [sC j1, sC p0.hi]]), (3, [.bx [sC p1.lo, sC p1.hi]]), (4, [.bx [sC ((⟨#[]⟩ : ByteArray)), sC ((⟨#[]⟩ : ByteArray))]])]
            first | rfl | (simp only [h3, h4, cond_true, cond_false]) | (simp only [h3, h4, cond_true, cond_false]; rfl)
      obtain ⟨y2, h, ky2⟩ := bndJ_e h
      refine a_joinT (ι := ByteArray) (fun j => mk 46 [(2, .one (.pl [(2, 0)] 0 0)), (4, .one (.pl [(4, 0)] 0 0))] [(2, [.bx [sC j1, sC j]]), (4, [.bx [sC ((⟨#[]⟩ : ByteArray)), sC ((⟨#[]⟩ : ByteArray))]])]) (fun j => y2 = j) ?_ ?_
      · refine a_cond (b := bif ((p0.hi.toList == ((⟨#[]⟩ : ByteArray)).toList)) then true else (bif (!(p1.hi.toList == ((⟨#[]⟩ : ByteArray)).toList)) then (Op.bytesLess p1.hi.toList p0.hi.toList) else false)) (by kernel_rfl) (fun h3 => ?_) (fun h3 => ?_)
        · replace h := cT h3 h
          refine a_run [2, 4] tyOK (st1 := mk 46 [(2, .one (.pl [(2, 0)] 0 0)), (4, .one (.pl [(4, 0)] 0 0))] [(2, [.bx [sC j1, sC p1.hi]]), (4, [.bx [sC ((⟨#[]⟩ : ByteArray)), sC ((⟨#[]⟩ : ByteArray))]])]) (by kernel_rfl) ?_
          obtain rfl := Option.some.inj h
          show ∃ _, _ ∧ Imp _ _ _
          refine ⟨_, rfl, ?_⟩
          exact imp_keepTo [2, 4] (by kernel_rfl) (imp_done rfl)
        · replace h := cF h3 h
          refine a_skip ?_
          obtain rfl := Option.some.inj h
          show ∃ _, _ ∧ Imp _ _ _
          refine ⟨_, rfl, ?_⟩
          exact imp_keepTo [2, 4] (by kernel_rfl) (imp_done rfl)
      intro j2 hj2
      replace h := ky2 _ hj2
      refine a_seq ?_
      refine a_seq ?_
      refine a_ops [0, 1, 2] (by kernel_rfl) ?_
      refine ao_some [0] [1, 2] [2, 4, 41] tyOK (st1 := mk 46 [(2, .one (.pl [(2, 0)] 0 0)), (4, .one (.pl [(4, 0)] 0 0)), (41, .agg [.c (sC j1), .c (sC j2)])] [(2, [.bx [sC j1, sC j2]]), (4, [.bx [sC ((⟨#[]⟩ : ByteArray)), sC ((⟨#[]⟩ : ByteArray))]])]) (by kernel_rfl) ?_
      refine ao_enter (f := 89) (d := 42) (A := [.agg [.c (sC j1), .c (sC j2)]]) (st1 := mk 46 [(2, .one (.pl [(2, 0)] 0 0)), (4, .one (.pl [(4, 0)] 0 0)), (42, bV (s_RangeOk ((⟨j1, j2⟩ : Range))))] [(2, [.bx [sC j1, sC j2]]), (4, [.bx [sC ((⟨#[]⟩ : ByteArray)), sC ((⟨#[]⟩ : ByteArray))]])]) [2, 4, 42] (k_s_RangeOk ((⟨j1, j2⟩ : Range)) _ rfl) Try.call89 (by kernel_rfl) (by kernel_rfl) (by kernel_rfl) ?_
      refine ao_some [2] [] [2, 4, 43] tyOK (st1 := mk 46 [(2, .one (.pl [(2, 0)] 0 0)), (4, .one (.pl [(4, 0)] 0 0)), (43, bV (!(s_RangeOk ((⟨j1, j2⟩ : Range)))))] [(2, [.bx [sC j1, sC j2]]), (4, [.bx [sC ((⟨#[]⟩ : ByteArray)), sC ((⟨#[]⟩ : ByteArray))]])]) (by kernel_rfl) ?_
      refine ao_nil ?_
      refine a_cond (b := !(s_RangeOk ((⟨j1, j2⟩ : Range)))) (by kernel_rfl) (fun h4 => ?_) (fun h4 => ?_)
      · replace h := cT h4 h
        refine a_seq ?_
        refine a_run [4, 5] tyOK (st1 := mk 46 [(4, .one (.pl [(4, 0)] 0 0)), (5, bV false)] [(4, [.bx [sC ((⟨#[]⟩ : ByteArray)), sC ((⟨#[]⟩ : ByteArray))]])]) (by kernel_rfl) ?_
        refine a_ret ?_
        obtain rfl := Option.some.inj h
        exact end_eq (res' := .tup [.agg [.c (sC ((⟨#[]⟩ : ByteArray))), .c (sC ((⟨#[]⟩ : ByteArray)))], .one (.c (bC false))]) (by kernel_rfl) (by first | rfl | simp)
      · replace h := cF h4 h
        refine a_skip ?_
        refine a_seq ?_
        refine a_run [4, 5] tyOK (st1 := mk 46 [(4, .one (.pl [(4, 0)] 0 0)), (5, bV true)] [(4, [.bx [sC j1, sC j2]])]) (by kernel_rfl) ?_
        refine a_ret ?_
        obtain rfl := Option.some.inj h
        exact end_eq (res' := .tup [.agg [.c (sC j1), .c (sC j2)], .one (.c (bC true))]) (by kernel_rfl) (by first | rfl | simp)

noncomputable def s_l07Clash (p0 : Lock) (p1 : Lock) : Option (Bool) :=
 bnd (s_RangeBoth p0.range p1.range) fun r1 =>
 some (bif (!((p0.tx.c == p1.tx.c) && ((p0.tx.e == p1.tx.e) && ((p0.tx.n == p1.tx.n) && true)))) then (bif r1.2 then (bif p0.ex then true else p1.ex) else false) else false)
set_option maxHeartbeats 4000000 in
/-- spec.l07Clash -/
theorem k_s_l07Clash (p0 : Lock) (p1 : Lock) (v : Bool) (h : s_l07Clash p0 p1 = some v) : CallOK Try.prog 90 [.agg [.c (iC p0.tx.c), .c (iC p0.tx.e), .c (iC p0.tx.n), .c (sC p0.range.lo), .c (sC p0.range.hi), .c (bC p0.ex)], .agg [.c (iC p1.tx.c), .c (iC p1.tx.e), .c (iC p1.tx.n), .c (sC p1.range.lo), .c (sC p1.range.hi), .c (bC p1.ex)]] (bV v) [] :=
  callOK tyOK Try.func90 rfl fun w S hS => by
    unfold s_l07Clash at h
    refine a_seq ?_
    refine a_run [2, 3] tyOK (st1 := mk 31 [(2, .one (.pl [(2, 0)] 0 0)), (3, .one (.pl [(3, 0)] 0 0))] [(2, [.bx [iC p0.tx.c, iC p0.tx.e, iC p0.tx.n, sC p0.range.lo, sC p0.range.hi, bC p0.ex]]), (3, [.bx [iC p1.tx.c, iC p1.tx.e, iC p1.tx.n, sC p1.range.lo, sC p1.range.hi, bC p1.ex]])]) (by kernel_rfl) ?_
    refine a_seq ?_
    refine a_ops [0, 1, 2, 3, 4, 5, 6, 7, 8, 9, 10] (by kernel_rfl) ?_
    refine ao_some [0, 1, 2, 3] [4, 5, 6, 7, 8, 9, 10] [2, 3, 9, 11] tyOK (st1 := mk 31 [(2, .one (.pl [(2, 0)] 0 0)), (3, .one (.pl [(3, 0)] 0 0)), (9, .agg [.c (sC p0.range.lo), .c (sC p0.range.hi)]), (11, .agg [.c (sC p1.range.lo), .c (sC p1.range.hi)])] [(2, [.bx [iC p0.tx.c, iC p0.tx.e, iC p0.tx.n, sC p0.range.lo, sC p0.range.hi, bC p0.ex]]), (3, [.bx [iC p1.tx.c, iC p1.tx.e, iC p1.tx.n, sC p1.range.lo, sC p1.range.hi, bC p1.ex]])]) (by kernel_rfl) ?_
    obtain ⟨r1, er1, h⟩ := bnd_e h
    refine ao_enter (f := 104) (d := 12) (A := [.agg [.c (sC p0.range.lo), .c (sC p0.range.hi)], .agg [.c (sC p1.range.lo), .c (sC p1.range.hi)]]) (st1 := mk 31 [(2, .one (.pl [(2, 0)] 0 0)), (3, .one (.pl [(3, 0)] 0 0)), (12, .tup [.agg [.c (sC r1.1.lo), .c (sC r1.1.hi)], .one (.c (bC r1.2))])] [(2, [.bx [iC p0.tx.c, iC p0.tx.e, iC p0.tx.n, sC p0.range.lo, sC p0.range.hi, bC p0.ex]]), (3, [.bx [iC p1.tx.c, iC p1.tx.e, iC p1.tx.n, sC p1.range.lo, sC p1.range.hi, bC p1.ex]])]) [2, 3, 12] (k_s_RangeBoth p0.range p1.range r1 er1) Try.call104 (by kernel_rfl) (by kernel_rfl) (by kernel_rfl) ?_
    refine ao_some [5, 6, 7, 8, 9, 10] [] [2, 3, 6] tyOK (st1 := mk 31 [(2, .one (.pl [(2, 0)] 0 0)), (3, .one (.pl [(3, 0)] 0 0)), (6, bV r1.2)] [(2, [.bx [iC p0.tx.c, iC p0.tx.e, iC p0.tx.n, sC p0.range.lo, sC p0.range.hi, bC p0.ex]]), (3, [.bx [iC p1.tx.c, iC p1.tx.e, iC p1.tx.n, sC p1.range.lo, sC p1.range.hi, bC p1.ex]])]) (by kernel_rfl) ?_
    refine ao_nil ?_
    refine a_seq ?_
    refine a_mid (mk 31 [(4, bV (bif (!((p0.tx.c == p1.tx.c) && ((p0.tx.e == p1.tx.e) && ((p0.tx.n == p1.tx.n) && true)))) then (bif r1.2 then (bif p0.ex then true else p1.ex) else false) else false))] []) ?_ ?_
    · refine a_ops [0, 1, 2, 3, 4, 5, 6, 7, 8, 9, 10, 11, 12, 13, 14, 15, 16] (by kernel_rfl) ?_
      refine ao_some [0, 1, 2, 3, 4, 5] [6, 7, 8, 9, 10, 11, 12, 13, 14, 15, 16] [2, 3, 6, 20] tyOK (st1 := mk 31 [(2, .one (.pl [(2, 0)] 0 0)), (3, .one (.pl [(3, 0)] 0 0)), (6, bV r1.2), (20, bV (!((p0.tx.c == p1.tx.c) && ((p0.tx.e == p1.tx.e) && ((p0.tx.n == p1.tx.n) && true)))))] [(2, [.bx [iC p0.tx.c, iC p0.tx.e, iC p0.tx.n, sC p0.range.lo, sC p0.range.hi, bC p0.ex]]), (3, [.bx [iC p1.tx.c, iC p1.tx.e, iC p1.tx.n, sC p1.range.lo, sC p1.range.hi, bC p1.ex]])]) (by kernel_rfl) ?_
      rcases Bool.eq_false_or_eq_true (!((p0.tx.c == p1.tx.c) && ((p0.tx.e == p1.tx.e) && ((p0.tx.n == p1.tx.n) && true)))) with h1 | h1
      · refine ao_says (k := 20) (t := bV (!((p0.tx.c == p1.tx.c) && ((p0.tx.e == p1.tx.e) && ((p0.tx.n == p1.tx.n) && true))))) (t' := bV true) (st1 := mk 31 [(2, .one (.pl [(2, 0)] 0 0)), (3, .one (.pl [(3, 0)] 0 0)), (6, bV r1.2), (20, bV true)] [(2, [.bx [iC p0.tx.c, iC p0.tx.e, iC p0.tx.n, sC p0.range.lo, sC p0.range.hi, bC p0.ex]]), (3, [.bx [iC p1.tx.c, iC p1.tx.e, iC p1.tx.n, sC p1.range.lo, sC p1.range.hi, bC p1.ex]])]) (by kernel_rfl) (by rw [h1]) (by kernel_rfl) ?_
        refine ao_some [6, 7, 8] [9, 10, 11, 12, 13, 14, 15, 16] [2, 3, 23] tyOK (st1 := mk 31 [(2, .one (.pl [(2, 0)] 0 0)), (3, .one (.pl [(3, 0)] 0 0)), (23, bV r1.2)] [(2, [.bx [iC p0.tx.c, iC p0.tx.e, iC p0.tx.n, sC p0.range.lo, sC p0.range.hi, bC p0.ex]]), (3, [.bx [iC p1.tx.c, iC p1.tx.e, iC p1.tx.n, sC p1.range.lo, sC p1.range.hi, bC p1.ex]])]) (by kernel_rfl) ?_
        rcases Bool.eq_false_or_eq_true (r1.2) with h2 | h2
        · refine ao_says (k := 23) (t := bV r1.2) (t' := bV true) (st1 := mk 31 [(2, .one (.pl [(2, 0)] 0 0)), (3, .one (.pl [(3, 0)] 0 0)), (23, bV true)] [(2, [.bx [iC p0.tx.c, iC p0.tx.e, iC p0.tx.n, sC p0.range.lo, sC p0.range.hi, bC p0.ex]]), (3, [.bx [iC p1.tx.c, iC p1.tx.e, iC p1.tx.n, sC p1.range.lo, sC p1.range.hi, bC p1.ex]])]) (by kernel_rfl) (by rw [h2]) (by kernel_rfl) ?_
          refine ao_some [9, 10, 11] [12, 13, 14, 15, 16] [3, 23, 26] tyOK (st1 := mk 31 [(3, .one (.pl [(3, 0)] 0 0)), (23, bV true), (26, bV p0.ex)] [(3, [.bx [iC p1.tx.c, iC p1.tx.e, iC p1.tx.n, sC p1.range.lo, sC p1.range.hi, bC p1.ex]])]) (by kernel_rfl) ?_
          rcases Bool.eq_false_or_eq_true (p0.ex) with h3 | h3
          · refine ao_says (k := 26) (t := bV p0.ex) (t' := bV true) (st1 := mk 31 [(3, .one (.pl [(3, 0)] 0 0)), (23, bV true), (26, bV true)] [(3, [.bx [iC p1.tx.c, iC p1.tx.e, iC p1.tx.n, sC p1.range.lo, sC p1.range.hi, bC p1.ex]])]) (by kernel_rfl) (by rw [h3]) (by kernel_rfl) ?_
            refine ao_some [12, 13, 14, 15, 16] [] [4] tyOK (st1 := mk 31 [(4, bV true)] []) (by kernel_rfl) ?_
            refine ao_nil ?_
            show mk 31 [(4, bV true)] [] = mk 31 [(4, bV (bif (!((p0.tx.c == p1.tx.c) && ((p0.tx.e == p1.tx.e) && ((p0.tx.n == p1.tx.n) && true)))) then (bif r1.2 then (bif p0.ex then true else p1.ex) else false) else false))] []
            first | rfl | (simp only [h1, h2, h3, cond_true, cond_false]) | (simp only [h1, h2, h3, cond_true, cond_false]; rfl)
          · refine ao_says (k := 26) (t := bV p0.ex) (t' := bV false) (st1 := mk 31 [(3, .one (.pl [(3, 0)] 0 0)), (23, bV true), (26, bV false)] [(3, [.bx [iC p1.tx.c, iC p1.tx.e, iC p1.tx.n, sC p1.range.lo, sC p1.range.hi, bC p1.ex]])]) (by kernel_rfl) (by rw [h3]) (by kernel_rfl) ?_
            refine ao_some [12, 13, 14, 15, 16] [] [4] tyOK (st1 := mk 31 [(4, bV p1.ex)] []) (by kernel_rfl) ?_
            refine ao_nil ?_
            show mk 31 [(4, bV p1.ex)] [] = mk 31 [(4, bV (bif (!((p0.tx.c == p1.tx.c) && ((p0.tx.e == p1.tx.e) && ((p0.tx.n == p1.tx.n) && true)))) then (bif r1.2 then (bif p0.ex then true else p1.ex) else false) else false))] []
            first | rfl | (simp only [h1, h2, h3, cond_true, cond_false]) | (simp only [h1, h2, h3, cond_true, cond_false]; rfl)
        · refine ao_says (k := 23) (t := bV r1.2) (t' := bV false) (st1 := mk 31 [(2, .one (.pl [(2, 0)] 0 0)), (3, .one (.pl [(3, 0)] 0 0)), (23, bV false)] [(2, [.bx [iC p0.tx.c, iC p0.tx.e, iC p0.tx.n, sC p0.range.lo, sC p0.range.hi, bC p0.ex]]), (3, [.bx [iC p1.tx.c, iC p1.tx.e, iC p1.tx.n, sC p1.range.lo, sC p1.range.hi, bC p1.ex]])]) (by kernel_rfl) (by rw [h2]) (by kernel_rfl) ?_
          refine ao_some [9, 10, 11, 12, 13, 14, 15, 16] [] [4] tyOK (st1 := mk 31 [(4, bV false)] []) (by kernel_rfl) ?_
          refine ao_nil ?_
          show mk 31 [(4, bV false)] [] = mk 31 [(4, bV (bif (!((p0.tx.c == p1.tx.c) && ((p0.tx.e == p1.tx.e) && ((p0.tx.n == p1.tx.n) && true)))) then (bif r1.2 then (bif p0.ex then true else p1.ex) else false) else false))] []
          first | rfl | (simp only [h1, h2, cond_true, cond_false]) | (simp only [h1, h2, cond_true, cond_false]; rfl)
      · refine ao_says (k := 20) (t := bV (!((p0.tx.c == p1.tx.c) && ((p0.tx.e == p1.tx.e) && ((p0.tx.n == p1.tx.n) && true))))) (t' := bV false) (st1 := mk 31 [(2, .one (.pl [(2, 0)] 0 0)), (3, .one (.pl [(3, 0)] 0 0)), (6, bV r1.2), (20, bV false)] [(2, [.bx [iC p0.tx.c, iC p0.tx.e, iC p0.tx.n, sC p0.range.lo, sC p0.range.hi, bC p0.ex]]), (3, [.bx [iC p1.tx.c, iC p1.tx.e, iC p1.tx.n, sC p1.range.lo, sC p1.range.hi, bC p1.ex]])]) (by kernel_rfl) (by rw [h1]) (by kernel_rfl) ?_
        refine ao_some [6, 7, 8, 9, 10, 11, 12, 13, 14, 15, 16] [] [4] tyOK (st1 := mk 31 [(4, bV false)] []) (by kernel_rfl) ?_
        refine ao_nil ?_
        show mk 31 [(4, bV false)] [] = mk 31 [(4, bV (bif (!((p0.tx.c == p1.tx.c) && ((p0.tx.e == p1.tx.e) && ((p0.tx.n == p1.tx.n) && true)))) then (bif r1.2 then (bif p0.ex then true else p1.ex) else false) else false))] []
        first | rfl | (simp only [h1, cond_true, cond_false]) | (simp only [h1, cond_true, cond_false]; rfl)
    refine a_ret ?_
    obtain rfl := Option.some.inj h
    exact end_eq (res' := bV (bif (!((p0.tx.c == p1.tx.c) && ((p0.tx.e == p1.tx.e) && ((p0.tx.n == p1.tx.n) && true)))) then (bif r1.2 then (bif p0.ex then true else p1.ex) else false) else false)) (by kernel_rfl) (by first | rfl | simp)

noncomputable def Bs_l07Any_1 (p0 : (List Lock)) (p1 : Lock) (s1 : Int) : Option (Int ⊕ (Unit ⊕ (Bool))) :=
 bif (decide (s1 < (((((p0).map eLock).length : Nat) : Int)))) then
 (bnd (getI p0 s1) fun x1 =>
 bnd (s_l07Clash p1 x1) fun r1 =>
 bif r1 then
 (some (.inr (.inr true)))
 else
 (some (.inl (IntKind.wrap .i64 (s1 + 1)))))
 else
 (some (.inr (.inl (()))))

noncomputable def s_l07Any (p0 : (List Lock)) (p1 : Lock) : Option (Bool) :=
 bndS (loopT (Bs_l07Any_1 p0 p1) 0) fun j1 =>
 some false
set_option maxHeartbeats 4000000 in
/-- spec.l07Any -/
theorem k_s_l07Any (p0 : (List Lock)) (p1 : Lock) (v : Bool) (h : s_l07Any p0 p1 = some v) : CallOK Try.prog 64 [.one (.c (.sl 6 ((p0).map eLock))), .agg [.c (iC p1.tx.c), .c (iC p1.tx.e), .c (iC p1.tx.n), .c (sC p1.range.lo), .c (sC p1.range.hi), .c (bC p1.ex)]] (bV v) [] :=
  callOK tyOK Try.func64 rfl fun w S hS => by
    unfold s_l07Any at h
    refine a_seq ?_
    refine a_run [0, 3] tyOK (st1 := mk 17 [(0, .one (.c (.sl 6 ((p0).map eLock)))), (3, .one (.pl [(3, 0)] 0 0))] [(3, [.bx [iC p1.tx.c, iC p1.tx.e, iC p1.tx.n, sC p1.range.lo, sC p1.range.hi, bC p1.ex]])]) (by kernel_rfl) ?_
    refine a_seq ?_
    refine a_seq ?_
    refine a_run [3, 7, 8, 9] tyOK (st1 := mk 17 [(3, .one (.pl [(3, 0)] 0 0)), (7, .one (.c (.sl 6 ((p0).map eLock)))), (8, iV (((((p0).map eLock).length : Nat) : Int))), (9, iV 0)] [(3, [.bx [iC p1.tx.c, iC p1.tx.e, iC p1.tx.n, sC p1.range.lo, sC p1.range.hi, bC p1.ex]])]) (by kernel_rfl) ?_
    obtain ⟨y1, h, ky1, zy1⟩ := bndS_e h
    refine a_joinT (ι := Unit) (fun j => mk 17 [] []) (fun j => y1 = .inl j) ?_ ?_
    · refine a_block ?_
      refine a_loopT (Bs_l07Any_1 p0 p1) (fun s1 => mk 17 [(3, .one (.pl [(3, 0)] 0 0)), (7, .one (.c (.sl 6 ((p0).map eLock)))), (8, iV (((((p0).map eLock).length : Nat) : Int))), (9, iV s1)] [(3, [.bx [iC p1.tx.c, iC p1.tx.e, iC p1.tx.n, sC p1.range.lo, sC p1.range.hi, bC p1.ex]])]) 0 h ?_ ?_
      · exact imp_keepTo [3, 7, 8, 9] (by kernel_rfl) (imp_done rfl)
      intro s1 y2 h zy2
      unfold Bs_l07Any_1 at h
      refine a_seq ?_
      refine a_run [3, 7, 8, 9, 10] tyOK (st1 := mk 17 [(3, .one (.pl [(3, 0)] 0 0)), (7, .one (.c (.sl 6 ((p0).map eLock)))), (8, iV (((((p0).map eLock).length : Nat) : Int))), (9, iV s1), (10, bV (decide (s1 < (((((p0).map eLock).length : Nat) : Int)))))] [(3, [.bx [iC p1.tx.c, iC p1.tx.e, iC p1.tx.n, sC p1.range.lo, sC p1.range.hi, bC p1.ex]])]) (by kernel_rfl) ?_
      refine a_seq ?_
      refine a_cond (b := decide (s1 < (((((p0).map eLock).length : Nat) : Int)))) (by kernel_rfl) (fun h1 => ?_) (fun h1 => ?_)
      · replace h := cT h1 h
        refine a_skip ?_
        refine a_seq ?_
        refine a_block ?_
        refine a_seq ?_
        refine a_ops [0, 1, 2, 3] (by kernel_rfl) ?_
        obtain ⟨x1, ex1, h⟩ := bnd_e h
        refine ao_index (d := 11) (size := 6) (n := s1) (rows := (p0).map eLock) (st1 := mk 17 [(3, .one (.pl [(3, 0)] 0 0)), (7, .one (.c (.sl 6 ((p0).map eLock)))), (8, iV (((((p0).map eLock).length : Nat) : Int))), (9, iV s1), (11, .one (.fp [iC x1.tx.c, iC x1.tx.e, iC x1.tx.n, sC x1.range.lo, sC x1.range.hi, bC x1.ex] 0))] [(3, [.bx [iC p1.tx.c, iC p1.tx.e, iC p1.tx.n, sC p1.range.lo, sC p1.range.hi, bC p1.ex]])]) (eLock x1) [3, 7, 8, 9, 11] tyOK (by kernel_rfl) (getI_e ex1).1 (show ((p0).map eLock)[_]? = some _ from by rw [List.getElem?_map, (getI_e ex1).2]; rfl) (by kernel_rfl) (by kernel_rfl) ?_
        refine ao_some [1, 2, 3] [] [3, 6, 7, 8, 9] tyOK (st1 := mk 17 [(3, .one (.pl [(3, 0)] 0 0)), (6, .one (.pl [(6, 0)] 0 0)), (7, .one (.c (.sl 6 ((p0).map eLock)))), (8, iV (((((p0).map eLock).length : Nat) : Int))), (9, iV s1)] [(3, [.bx [iC p1.tx.c, iC p1.tx.e, iC p1.tx.n, sC p1.range.lo, sC p1.range.hi, bC p1.ex]]), (6, [.bx [iC x1.tx.c, iC x1.tx.e, iC x1.tx.n, sC x1.range.lo, sC x1.range.hi, bC x1.ex]])]) (by kernel_rfl) ?_
        refine ao_nil ?_
        refine a_seq ?_
        refine a_ops [0, 1, 2] (by kernel_rfl) ?_
        refine ao_some [0, 1] [2] [3, 7, 8, 9, 13, 14] tyOK (st1 := mk 17 [(3, .one (.pl [(3, 0)] 0 0)), (7, .one (.c (.sl 6 ((p0).map eLock)))), (8, iV (((((p0).map eLock).length : Nat) : Int))), (9, iV s1), (13, .agg [.c (iC p1.tx.c), .c (iC p1.tx.e), .c (iC p1.tx.n), .c (sC p1.range.lo), .c (sC p1.range.hi), .c (bC p1.ex)]), (14, .agg [.c (iC x1.tx.c), .c (iC x1.tx.e), .c (iC x1.tx.n), .c (sC x1.range.lo), .c (sC x1.range.hi), .c (bC x1.ex)])] [(3, [.bx [iC p1.tx.c, iC p1.tx.e, iC p1.tx.n, sC p1.range.lo, sC p1.range.hi, bC p1.ex]])]) (by kernel_rfl) ?_
        obtain ⟨r1, er1, h⟩ := bnd_e h
        refine ao_enter (f := 90) (d := 15) (A := [.agg [.c (iC p1.tx.c), .c (iC p1.tx.e), .c (iC p1.tx.n), .c (sC p1.range.lo), .c (sC p1.range.hi), .c (bC p1.ex)], .agg [.c (iC x1.tx.c), .c (iC x1.tx.e), .c (iC x1.tx.n), .c (sC x1.range.lo), .c (sC x1.range.hi), .c (bC x1.ex)]]) (st1 := mk 17 [(3, .one (.pl [(3, 0)] 0 0)), (7, .one (.c (.sl 6 ((p0).map eLock)))), (8, iV (((((p0).map eLock).length : Nat) : Int))), (9, iV s1), (15, bV r1)] [(3, [.bx [iC p1.tx.c, iC p1.tx.e, iC p1.tx.n, sC p1.range.lo, sC p1.range.hi, bC p1.ex]])]) [3, 7, 8, 9, 15] (k_s_l07Clash p1 x1 r1 er1) Try.call90 (by kernel_rfl) (by kernel_rfl) (by kernel_rfl) ?_
        refine ao_nil ?_
        refine a_cond (b := r1) (by kernel_rfl) (fun h2 => ?_) (fun h2 => ?_)
        · replace h := cT h2 h
          refine a_seq ?_
          refine a_run [4] tyOK (st1 := mk 17 [(4, bV true)] []) (by kernel_rfl) ?_
          refine a_ret ?_
          obtain rfl := Option.some.inj h
          obtain rfl := zy2 _ rfl
          obtain rfl := zy1 _ rfl
          exact end_eq (res' := bV true) (by kernel_rfl) (by first | rfl | simp)
        · replace h := cF h2 h
          refine a_skip ?_
          refine a_run [3, 7, 8, 9] tyOK (st1 := mk 17 [(3, .one (.pl [(3, 0)] 0 0)), (7, .one (.c (.sl 6 ((p0).map eLock)))), (8, iV (((((p0).map eLock).length : Nat) : Int))), (9, iV (IntKind.wrap .i64 (s1 + 1)))] [(3, [.bx [iC p1.tx.c, iC p1.tx.e, iC p1.tx.n, sC p1.range.lo, sC p1.range.hi, bC p1.ex]])]) (by kernel_rfl) ?_
          obtain rfl := Option.some.inj h
          show ∃ _, _ ∧ Imp _ _ _
          refine ⟨_, rfl, ?_⟩
          exact imp_keepTo [3, 7, 8, 9] (by kernel_rfl) (imp_done rfl)
      · replace h := cF h1 h
        refine a_exit ?_
        obtain rfl := Option.some.inj h
        obtain rfl := zy2 _ rfl
        show ∃ _, _ ∧ Imp _ _ _
        refine ⟨_, rfl, ?_⟩
        exact imp_keepTo [] (by kernel_rfl) (imp_done rfl)
    intro j1 hj1
    replace h := ky1 _ hj1
    refine a_seq ?_
    refine a_run [4] tyOK (st1 := mk 17 [(4, bV false)] []) (by kernel_rfl) ?_
    refine a_ret ?_
    obtain rfl := Option.some.inj h
    exact end_eq (res' := bV false) (by kernel_rfl) (by first | rfl | simp)

end Go.Proofs.Ytijmnochaamllaa
