/- What functions of the given program compute, each proved once, for the law that is proved in YtagoajkiccgmjaaLocks: whatever their arguments, under the conditions that each theorem names. -/
import Derived.Test.YtagoajkiccgmjaaProg
import Derived.Test.YtagoajkiccgmjaaMvV
set_option linter.unusedVariables false
set_option linter.unusedSimpArgs false
namespace Go.Proofs.Ytagoajkiccgmjaa
open Go.Mv Go.RowKit
theorem eqD45_10000 : EqD Try.prog 10000 45 [.int .i64, .int .i64, .int .i64] :=
  eqD_struct (d := 9999) (fs := [⟨ "C", 3, 0, false, "", "", 0⟩, ⟨ "E", 3, 1, false, "", "", 8⟩, ⟨ "N", 3, 2, false, "", "", 16⟩]) (by kernel_rfl) (by kernel_rfl) (by kernel_rfl) (eqFs_leaf (by decide) rfl Try.isAgg3 (eqK_int (d := 9998) Try.underlying3) (eqFs_leaf (by decide) rfl Try.isAgg3 (eqK_int (d := 9998) Try.underlying3) (eqFs_leaf (by decide) rfl Try.isAgg3 (eqK_int (d := 9998) Try.underlying3) eqFs_nil)))
theorem eqOK45 : EqOK Try.prog 45 [.int .i64, .int .i64, .int .i64] := eqOK_of Try.eqGuardType45 eqD45_10000
noncomputable def tyL : List (Nat × TInfo) := [
  (3, { k := .int .i64, size := 1, bytes := 8, zero := .int .i64 0 }),
  (4, { k := .bool, size := 1, bytes := 1, zero := .bool false }),
  (5, { k := .int .u8, size := 1, bytes := 1, zero := .int .u8 0 }),
  (9, { k := .string, size := 1, bytes := 16, zero := .string ⟨#[]⟩ }),
  (33, { k := .struct [(0, 9), (1, 9)], size := 2, bytes := 32, zero := .agg #[.string ⟨#[]⟩, .string ⟨#[]⟩] }),
  (40, { k := .slice 5, size := 1, bytes := 24, zero := .slice none 0 0, szs := [1] }),
  (41, { k := .slice 47, size := 1, bytes := 24, zero := .slice none 0 0, szs := [6] }),
  (43, { k := .struct [(0, 41), (1, 41)], size := 2, bytes := 48, zero := .agg #[.slice none 0 0, .slice none 0 0], szs := [6, 6] }),
  (45, { k := .struct [(0, 3), (1, 3), (2, 3)], size := 3, bytes := 24, zero := .agg #[.int .i64 0, .int .i64 0, .int .i64 0], eqs := some [.int .i64, .int .i64, .int .i64] }),
  (47, { k := .struct [(0, 45), (3, 33), (5, 4)], size := 6, bytes := 64, zero := .agg #[.int .i64 0, .int .i64 0, .int .i64 0, .string ⟨#[]⟩, .string ⟨#[]⟩, .bool false] }),
  (95, { k := .other, size := 1, bytes := 8, zero := .pointer none }),
  (133, { k := .struct [(0, 40), (1, 3), (2, 3)], size := 3, bytes := 40, zero := .agg #[.slice none 0 0, .int .i64 0, .int .i64 0], szs := [1, 0, 0] }),
  (135, { k := .slice 3, size := 1, bytes := 24, zero := .slice none 0 0, szs := [1] }),
  (136, { k := .slice 9, size := 1, bytes := 24, zero := .slice none 0 0, szs := [1] }),
  (137, { k := .other, size := 1, bytes := 8, zero := .pointer none }),
  (140, { k := .slice 41, size := 1, bytes := 24, zero := .slice none 0 0, szs := [1] }),
  (149, { k := .int .u64, size := 1, bytes := 8, zero := .int .u64 0 })]
noncomputable abbrev Ty := tyOf tyL
theorem tyOK : TyOK Try.prog Ty := tyOf_ok (by
  simp only [tyL, List.forall_mem_cons]
  refine ⟨⟨Try.underlying3, ⟨Try.t3, by kernel_rfl, rfl, rfl, rfl⟩, nofun⟩, ?_⟩
  refine ⟨⟨Try.underlying4, ⟨Try.t4, by kernel_rfl, rfl, rfl, rfl⟩, nofun⟩, ?_⟩
  refine ⟨⟨Try.underlying5, ⟨Try.t5, by kernel_rfl, rfl, rfl, rfl⟩, nofun⟩, ?_⟩
  refine ⟨⟨Try.underlying9, ⟨Try.t9, by kernel_rfl, rfl, rfl, rfl⟩, nofun⟩, ?_⟩
  refine ⟨⟨⟨_, Try.underlying33, rfl⟩, ⟨Try.t33, by kernel_rfl, rfl, rfl, rfl⟩, nofun⟩, ?_⟩
  refine ⟨⟨Try.underlying40, ⟨Try.t40, by kernel_rfl, rfl, rfl, rfl⟩, nofun⟩, ?_⟩
  refine ⟨⟨Try.underlying41, ⟨Try.t41, by kernel_rfl, rfl, rfl, rfl⟩, nofun⟩, ?_⟩
  refine ⟨⟨⟨_, Try.underlying43, rfl⟩, ⟨Try.t43, by kernel_rfl, rfl, rfl, rfl⟩, nofun⟩, ?_⟩
  refine ⟨⟨⟨_, Try.underlying45, rfl⟩, ⟨Try.t45, by kernel_rfl, rfl, rfl, rfl⟩, fun ks h => by cases h; exact eqOK45⟩, ?_⟩
  refine ⟨⟨⟨_, Try.underlying47, rfl⟩, ⟨Try.t47, by kernel_rfl, rfl, rfl, rfl⟩, nofun⟩, ?_⟩
  refine ⟨⟨⟨_, Try.underlying95, trivial⟩, ⟨Try.t95, by kernel_rfl, rfl, rfl, rfl⟩, nofun⟩, ?_⟩
  refine ⟨⟨⟨_, Try.underlying133, rfl⟩, ⟨Try.t133, by kernel_rfl, rfl, rfl, rfl⟩, nofun⟩, ?_⟩
  refine ⟨⟨Try.underlying135, ⟨Try.t135, by kernel_rfl, rfl, rfl, rfl⟩, nofun⟩, ?_⟩
  refine ⟨⟨Try.underlying136, ⟨Try.t136, by kernel_rfl, rfl, rfl, rfl⟩, nofun⟩, ?_⟩
  refine ⟨⟨⟨_, Try.underlying137, trivial⟩, ⟨Try.t137, by kernel_rfl, rfl, rfl, rfl⟩, nofun⟩, ?_⟩
  refine ⟨⟨Try.underlying140, ⟨Try.t140, by kernel_rfl, rfl, rfl, rfl⟩, nofun⟩, ?_⟩
  refine ⟨⟨Try.underlying149, ⟨Try.t149, by kernel_rfl, rfl, rfl, rfl⟩, nofun⟩, ?_⟩
  exact nofun)
def eN_u64 (n : Int) : List C := [.v (.int .u64 n)]
def eN_u8 (n : Int) : List C := [.v (.int .u8 n)]
def eBool (b : Bool) : List C := [bC b]
def eStr (s : ByteArray) : List C := [sC s]
def eInt (n : Int) : List C := [iC n]
structure L01Cur where
  b : List Int
  i : Int
  h : Int
instance : Inhabited L01Cur := ⟨⟨[], 0, 0⟩⟩
def eL01Cur (x : L01Cur) : List C := [lC 1 eN_u8 x.b, iC x.i, iC x.h]
structure Tx where
  c : Int
  e : Int
  n : Int
instance : Inhabited Tx := ⟨⟨0, 0, 0⟩⟩
def eTx (x : Tx) : List C := [iC x.c, iC x.e, iC x.n]
structure Range where
  lo : ByteArray
  hi : ByteArray
instance : Inhabited Range := ⟨⟨⟨#[]⟩, ⟨#[]⟩⟩⟩
def eRange (x : Range) : List C := [sC x.lo, sC x.hi]
structure Lock where
  tx : Tx
  range : Range
  ex : Bool
instance : Inhabited Lock := ⟨⟨default, default, false⟩⟩
def eLock (x : Lock) : List C := [iC x.tx.c, iC x.tx.e, iC x.tx.n, sC x.range.lo, sC x.range.hi, bC x.ex]
structure Locks where
  held : List Lock
  wait : List Lock
instance : Inhabited Locks := ⟨⟨[], []⟩⟩
def eLocks (x : Locks) : List C := [lC 6 eLock x.held, lC 6 eLock x.wait]
theorem cl_Str (s : ByteArray) : ∀ c ∈ eStr s, ∃ u, c = .v u := by simp [eStr, sC]
theorem cl_Int (n : Int) : ∀ c ∈ eInt n, ∃ u, c = .v u := by simp [eInt, iC]
theorem cl_Tx (x : Tx) : ∀ c ∈ eTx x, ∃ u, c = .v u := by simp [eTx, iC, sC, bC]
theorem cl_Range (x : Range) : ∀ c ∈ eRange x, ∃ u, c = .v u := by simp [eRange, iC, sC, bC]
theorem cl_Lock (x : Lock) : ∀ c ∈ eLock x, ∃ u, c = .v u := by simp [eLock, iC, sC, bC]


end Go.Proofs.Ytagoajkiccgmjaa
namespace Go.Proofs.Ytagoajkiccgmjaa
open Go.Mv Go.RowKit
structure Ss_l01New_1 where
  v3 : Int
  v4 : Int

noncomputable def Bs_l01New_1 (p0 : (List Int)) (s1 : Ss_l01New_1) : Option (Ss_l01New_1 ⊕ Int) :=
 bif (bif (decide (s1.v4 < (((((p0).map eN_u8).length : Nat) : Int)))) then (decide (s1.v4 < 4000)) else false) then
 (bnd (getI p0 s1.v4) fun x1 =>
 some (.inl ((⟨IntKind.wrap .i64 (((BitVec.ofInt 64 (IntKind.wrap .i64 ((IntKind.wrap .i64 ((IntKind.wrap .i64 (s1.v3 * 137)) + (IntKind.wrap .i64 x1))) + 5)) &&& BitVec.ofInt 64 1073741823).toNat : Nat) : Int), IntKind.wrap .i64 (s1.v4 + 1)⟩ : Ss_l01New_1))))
 else
 (some (.inr s1.v3))

noncomputable def s_l01New (p0 : (List Int)) : Option (L01Cur) :=
 bnd (loopT (Bs_l01New_1 p0) ((⟨IntKind.wrap .i64 (789392 + (((((p0).map eN_u8).length : Nat) : Int))), 0⟩ : Ss_l01New_1))) fun j1 =>
 some ((⟨p0, 0, j1⟩ : L01Cur))
set_option maxHeartbeats 4000000 in
/-- spec.l01New -/
theorem k_s_l01New (p0 : (List Int)) (v : L01Cur) (h : s_l01New p0 = some v) : CallOK Try.prog 52 [lV 1 eN_u8 p0] (pV 0) [.bx [.fz (lC 1 eN_u8 v.b), iC v.i, iC v.h]] :=
  callOK tyOK Try.func52 rfl fun w S hS => by
    unfold s_l01New at h
    refine a_seq ?_
    refine a_run [0] tyOK (st1 := mk 32 [(0, lV 1 eN_u8 p0)] []) (by kernel_rfl) ?_
    refine a_seq ?_
    refine a_runM tyOK (l1 := [(0, lV 1 eN_u8 p0), (3, iV (IntKind.wrap .i64 (789392 + (((((p0).map eN_u8).length : Nat) : Int)))))]) (by kernel_rfl) ?_
    refine a_seq ?_
    refine a_seq ?_
    refine a_runM tyOK (l1 := [(0, lV 1 eN_u8 p0), (3, iV (IntKind.wrap .i64 (789392 + (((((p0).map eN_u8).length : Nat) : Int))))), (4, iV 0)]) (by kernel_rfl) ?_
    obtain ⟨y1, h, ky1⟩ := bndJ_e h
    refine a_joinT (ι := Int) (fun j => mk 32 [(0, lV 1 eN_u8 p0), (3, iV j)] []) (fun j => y1 = j) ?_ ?_
    · refine a_block ?_
      refine a_loopT (Bs_l01New_1 p0) (fun s1 => mk 32 [(0, lV 1 eN_u8 p0), (3, iV s1.v3), (4, iV s1.v4)] []) ((⟨IntKind.wrap .i64 (789392 + (((((p0).map eN_u8).length : Nat) : Int))), 0⟩ : Ss_l01New_1)) h ?_ ?_
      · exact imp_keepTo [0, 3, 4] (by kernel_rfl) (imp_done rfl)
      intro s1 y2 h zy2
      unfold Bs_l01New_1 at h
      refine a_seq ?_
      refine a_seq ?_
      refine a_mid (mk 32 [(0, lV 1 eN_u8 p0), (3, iV s1.v3), (4, iV s1.v4), (15, bV (bif (decide (s1.v4 < (((((p0).map eN_u8).length : Nat) : Int)))) then (decide (s1.v4 < 4000)) else false))] []) ?_ ?_
      · refine a_ops [0, 1, 2, 3, 4, 5, 6, 7] (by kernel_rfl) ?_
        refine ao_some [0, 1, 2, 3, 4] [5, 6, 7] [0, 3, 4, 12] tyOK (st1 := mk 32 [(0, lV 1 eN_u8 p0), (3, iV s1.v3), (4, iV s1.v4), (12, bV (decide (s1.v4 < (((((p0).map eN_u8).length : Nat) : Int)))))] []) (by kernel_rfl) ?_
        rcases Bool.eq_false_or_eq_true (decide (s1.v4 < (((((p0).map eN_u8).length : Nat) : Int)))) with h1 | h1
        · refine ao_saysM (k := 12) (t := bV (decide (s1.v4 < (((((p0).map eN_u8).length : Nat) : Int))))) (t' := bV true) (l1 := [(0, lV 1 eN_u8 p0), (3, iV s1.v3), (4, iV s1.v4), (12, bV true)]) (by kernel_rfl) (by rw [h1]) (by kernel_rfl) ?_
          refine ao_someM [5, 6, 7] [] tyOK (l1 := [(0, lV 1 eN_u8 p0), (3, iV s1.v3), (4, iV s1.v4), (15, bV (decide (s1.v4 < 4000)))]) (by kernel_rfl) ?_
          refine ao_nil ?_
          show mk 32 [(0, lV 1 eN_u8 p0), (3, iV s1.v3), (4, iV s1.v4), (15, bV (decide (s1.v4 < 4000)))] [] = mk 32 [(0, lV 1 eN_u8 p0), (3, iV s1.v3), (4, iV s1.v4), (15, bV (bif (decide (s1.v4 < (((((p0).map eN_u8).length : Nat) : Int)))) then (decide (s1.v4 < 4000)) else false))] []
          first | rfl | (simp only [h1, cond_true, cond_false]) | (simp only [h1, cond_true, cond_false]; rfl)
        · refine ao_saysM (k := 12) (t := bV (decide (s1.v4 < (((((p0).map eN_u8).length : Nat) : Int))))) (t' := bV false) (l1 := [(0, lV 1 eN_u8 p0), (3, iV s1.v3), (4, iV s1.v4), (12, bV false)]) (by kernel_rfl) (by rw [h1]) (by kernel_rfl) ?_
          refine ao_someM [5, 6, 7] [] tyOK (l1 := [(0, lV 1 eN_u8 p0), (3, iV s1.v3), (4, iV s1.v4), (15, bV false)]) (by kernel_rfl) ?_
          refine ao_nil ?_
          show mk 32 [(0, lV 1 eN_u8 p0), (3, iV s1.v3), (4, iV s1.v4), (15, bV false)] [] = mk 32 [(0, lV 1 eN_u8 p0), (3, iV s1.v3), (4, iV s1.v4), (15, bV (bif (decide (s1.v4 < (((((p0).map eN_u8).length : Nat) : Int)))) then (decide (s1.v4 < 4000)) else false))] []
          first | rfl | (simp only [h1, cond_true, cond_false]) | (simp only [h1, cond_true, cond_false]; rfl)
      refine a_cond (b := bif (decide (s1.v4 < (((((p0).map eN_u8).length : Nat) : Int)))) then (decide (s1.v4 < 4000)) else false) (by kernel_rfl) (fun h1 => ?_) (fun h1 => ?_)
      · replace h := cT h1 h
        refine a_skip ?_
        refine a_seq ?_
        refine a_block ?_
        refine a_ops [0, 1, 2, 3, 4, 5, 6, 7, 8, 9, 10] (by kernel_rfl) ?_
        refine ao_some [0, 1, 2, 3] [4, 5, 6, 7, 8, 9, 10] [0, 4, 19, 20, 21] tyOK (st1 := mk 32 [(0, lV 1 eN_u8 p0), (4, iV s1.v4), (19, iV (IntKind.wrap .i64 (s1.v3 * 137))), (20, lV 1 eN_u8 p0), (21, iV s1.v4)] []) (by kernel_rfl) ?_
        obtain ⟨x1, ex1, h⟩ := bnd_e h
        refine ao_indexM (d := 22) (size := 1) (n := s1.v4) (rows := (p0).map eN_u8) (l1 := [(0, lV 1 eN_u8 p0), (4, iV s1.v4), (19, iV (IntKind.wrap .i64 (s1.v3 * 137))), (22, .one (.fp [.v (.int .u8 x1)] 0))]) (eN_u8 x1) tyOK (by kernel_rfl) (getI_e ex1).1 (show ((p0).map eN_u8)[_]? = some _ from by rw [List.getElem?_map, (getI_e ex1).2]; rfl) (by kernel_rfl) (by kernel_rfl) ?_
        refine ao_some [5, 6, 7, 8, 9, 10] [] [0, 3, 4] tyOK (st1 := mk 32 [(0, lV 1 eN_u8 p0), (3, iV (IntKind.wrap .i64 (((BitVec.ofInt 64 (IntKind.wrap .i64 ((IntKind.wrap .i64 ((IntKind.wrap .i64 (s1.v3 * 137)) + (IntKind.wrap .i64 x1))) + 5)) &&& BitVec.ofInt 64 1073741823).toNat : Nat) : Int))), (4, iV s1.v4)] []) (by kernel_rfl) ?_
        refine ao_nil ?_
        refine a_runM tyOK (l1 := [(0, lV 1 eN_u8 p0), (3, iV (IntKind.wrap .i64 (((BitVec.ofInt 64 (IntKind.wrap .i64 ((IntKind.wrap .i64 ((IntKind.wrap .i64 (s1.v3 * 137)) + (IntKind.wrap .i64 x1))) + 5)) &&& BitVec.ofInt 64 1073741823).toNat : Nat) : Int))), (4, iV (IntKind.wrap .i64 (s1.v4 + 1)))]) (by kernel_rfl) ?_
        obtain rfl := Option.some.inj h
        show ∃ _, _ ∧ Imp _ _ _
        refine ⟨_, rfl, ?_⟩
        exact imp_keepTo [0, 3, 4] (by kernel_rfl) (imp_done rfl)
      · replace h := cF h1 h
        refine a_exit ?_
        obtain rfl := Option.some.inj h
        obtain rfl := zy2 _ rfl
        show ∃ _, _ ∧ Imp _ _ _
        refine ⟨_, rfl, ?_⟩
        exact imp_keepTo [0, 3] (by kernel_rfl) (imp_done rfl)
    intro j1 hj1
    replace h := ky1 _ hj1
    refine a_seq ?_
    refine a_run [2] tyOK (st1 := mk 32 [(2, pV 31)] [(31, [.bx [.fz (lC 1 eN_u8 p0), iC 0, iC j1]])]) (by kernel_rfl) ?_
    refine a_ret ?_
    obtain rfl := Option.some.inj h
    exact end_own (ob := []) (res' := pV 0) (row' := [.bx [.fz (lC 1 eN_u8 p0), iC 0, iC j1]]) (by kernel_rfl) trivial (by first | rfl | simp) (by first | rfl | simp)

structure Xs_l01Byte_1 where
  v3 : Int
  w0_0_1 : Int

noncomputable def s_l01Byte (p0 : L01Cur) : Option (L01Cur × Int) :=
 bnd (bif (decide (p0.i < (((((p0.b).map eN_u8).length : Nat) : Int)))) then
 (bnd (getI p0.b p0.i) fun x1 =>
 some ((⟨IntKind.wrap .i64 (((BitVec.ofInt 64 (IntKind.wrap .i64 ((IntKind.wrap .i64 (((BitVec.ofInt 64 (IntKind.wrap .i64 (((BitVec.ofInt 64 (Int.fdiv (IntKind.wrap .i64 ((IntKind.wrap .i64 (p0.h * 6364136223846793005)) + 1442695040888963407)) 8589934592) ^^^ BitVec.ofInt 64 (Int.fdiv (IntKind.wrap .i64 ((IntKind.wrap .i64 (p0.h * 6364136223846793005)) + 1442695040888963407)) 35184372088832)).toNat : Nat) : Int)) &&& BitVec.ofInt 64 255).toNat : Nat) : Int)) + (IntKind.wrap .i64 x1))) &&& BitVec.ofInt 64 255).toNat : Nat) : Int), IntKind.wrap .i64 (p0.i + 1)⟩ : Xs_l01Byte_1)))
 else
 (some ((⟨IntKind.wrap .i64 (((BitVec.ofInt 64 (IntKind.wrap .i64 (((BitVec.ofInt 64 (Int.fdiv (IntKind.wrap .i64 ((IntKind.wrap .i64 (p0.h * 6364136223846793005)) + 1442695040888963407)) 8589934592) ^^^ BitVec.ofInt 64 (Int.fdiv (IntKind.wrap .i64 ((IntKind.wrap .i64 (p0.h * 6364136223846793005)) + 1442695040888963407)) 35184372088832)).toNat : Nat) : Int)) &&& BitVec.ofInt 64 255).toNat : Nat) : Int), p0.i⟩ : Xs_l01Byte_1)))) fun j1 =>
 some (((⟨p0.b, j1.w0_0_1, IntKind.wrap .i64 ((IntKind.wrap .i64 (p0.h * 6364136223846793005)) + 1442695040888963407)⟩ : L01Cur), j1.v3))
set_option maxHeartbeats 4000000 in
/-- spec.l01Byte -/
theorem k_s_l01Byte (p0 : L01Cur) (v : L01Cur × Int) (h : s_l01Byte p0 = some v) : CallG Try.prog 99 [.bx [.fz (lC 1 eN_u8 p0.b), iC p0.i, iC p0.h]] [pV 0] [.bx [.fz (lC 1 eN_u8 v.1.b), iC v.1.i, iC v.1.h]] (iV v.2) [] :=
  callG tyOK Try.func99 rfl (by simp) fun w S γ hS => by
    unfold s_l01Byte at h
    refine a_seq ?_
    refine a_run [0] tyOK (st1 := mk 58 [(0, pV 0)] [(0, [.bx [.fz (lC 1 eN_u8 p0.b), iC p0.i, iC p0.h]])]) (by kernel_rfl) ?_
    refine a_seq ?_
    refine a_run [0] tyOK (st1 := mk 58 [(0, pV 0)] [(0, [.bx [.fz (lC 1 eN_u8 p0.b), iC p0.i, iC (IntKind.wrap .i64 ((IntKind.wrap .i64 (p0.h * 6364136223846793005)) + 1442695040888963407))]])]) (by kernel_rfl) ?_
    refine a_seq ?_
    refine a_mid (mk 58 [(0, pV 0), (3, iV (IntKind.wrap .i64 (((BitVec.ofInt 64 (IntKind.wrap .i64 (((BitVec.ofInt 64 (Int.fdiv (IntKind.wrap .i64 ((IntKind.wrap .i64 (p0.h * 6364136223846793005)) + 1442695040888963407)) 8589934592) ^^^ BitVec.ofInt 64 (Int.fdiv (IntKind.wrap .i64 ((IntKind.wrap .i64 (p0.h * 6364136223846793005)) + 1442695040888963407)) 35184372088832)).toNat : Nat) : Int)) &&& BitVec.ofInt 64 255).toNat : Nat) : Int)))] [(0, [.bx [.fz (lC 1 eN_u8 p0.b), iC p0.i, iC (IntKind.wrap .i64 ((IntKind.wrap .i64 (p0.h * 6364136223846793005)) + 1442695040888963407))]])]) ?_ ?_
    · refine a_drawn (n := 13) [] (by kernel_rfl) (by kernel_rfl) ?_
      refine aa_takeM (fuel := 0) (listed' := #[true, true, true, true, true, true, true, true, true, true, true, true, true]) (l1 := [(0, pV 0), (3, iV (IntKind.wrap .i64 (((BitVec.ofInt 64 (IntKind.wrap .i64 (((BitVec.ofInt 64 (Int.fdiv (IntKind.wrap .i64 ((IntKind.wrap .i64 (p0.h * 6364136223846793005)) + 1442695040888963407)) 8589934592) ^^^ BitVec.ofInt 64 (Int.fdiv (IntKind.wrap .i64 ((IntKind.wrap .i64 (p0.h * 6364136223846793005)) + 1442695040888963407)) 35184372088832)).toNat : Nat) : Int)) &&& BitVec.ofInt 64 255).toNat : Nat) : Int)))]) [0, 1, 2, 3, 4, 5, 6, 7, 8, 9, 10, 11, 12] tyOK (by kernel_rfl) (by kernel_rfl) (by kernel_rfl) ?_
      refine aa_done (by kernel_rfl) ?_
      show _ = _; kernel_rfl
    refine a_seq ?_
    refine a_seq ?_
    refine a_mid (mk 58 [(0, pV 0), (3, iV (IntKind.wrap .i64 (((BitVec.ofInt 64 (IntKind.wrap .i64 (((BitVec.ofInt 64 (Int.fdiv (IntKind.wrap .i64 ((IntKind.wrap .i64 (p0.h * 6364136223846793005)) + 1442695040888963407)) 8589934592) ^^^ BitVec.ofInt 64 (Int.fdiv (IntKind.wrap .i64 ((IntKind.wrap .i64 (p0.h * 6364136223846793005)) + 1442695040888963407)) 35184372088832)).toNat : Nat) : Int)) &&& BitVec.ofInt 64 255).toNat : Nat) : Int))), (34, bV (decide (p0.i < (((((p0.b).map eN_u8).length : Nat) : Int)))))] [(0, [.bx [.fz (lC 1 eN_u8 p0.b), iC p0.i, iC (IntKind.wrap .i64 ((IntKind.wrap .i64 (p0.h * 6364136223846793005)) + 1442695040888963407))]])]) ?_ ?_
    · refine a_drawn (n := 10) [] (by kernel_rfl) (by kernel_rfl) ?_
      refine aa_takeM (fuel := 0) (listed' := #[true, true, true, true, true, true, true, true, true, true]) (l1 := [(0, pV 0), (3, iV (IntKind.wrap .i64 (((BitVec.ofInt 64 (IntKind.wrap .i64 (((BitVec.ofInt 64 (Int.fdiv (IntKind.wrap .i64 ((IntKind.wrap .i64 (p0.h * 6364136223846793005)) + 1442695040888963407)) 8589934592) ^^^ BitVec.ofInt 64 (Int.fdiv (IntKind.wrap .i64 ((IntKind.wrap .i64 (p0.h * 6364136223846793005)) + 1442695040888963407)) 35184372088832)).toNat : Nat) : Int)) &&& BitVec.ofInt 64 255).toNat : Nat) : Int))), (34, bV (decide (p0.i < (((((p0.b).map eN_u8).length : Nat) : Int)))))]) [0, 1, 2, 3, 4, 5, 6, 7, 8, 9] tyOK (by kernel_rfl) (by kernel_rfl) (by kernel_rfl) ?_
      refine aa_done (by kernel_rfl) ?_
      show _ = _; kernel_rfl
    obtain ⟨y1, h, ky1⟩ := bndJ_e h
    refine a_joinT (ι := Xs_l01Byte_1) (fun j => mk 58 [(0, pV 0), (3, iV j.v3)] [(0, [.bx [.fz (lC 1 eN_u8 p0.b), iC j.w0_0_1, iC (IntKind.wrap .i64 ((IntKind.wrap .i64 (p0.h * 6364136223846793005)) + 1442695040888963407))]])]) (fun j => y1 = j) ?_ ?_
    · refine a_cond (b := decide (p0.i < (((((p0.b).map eN_u8).length : Nat) : Int)))) (by kernel_rfl) (fun h1 => ?_) (fun h1 => ?_)
      · replace h := cT h1 h
        refine a_seq ?_
        obtain ⟨x1, ex1, h⟩ := bnd_e h
        refine a_mid (mk 58 [(0, pV 0), (3, iV (IntKind.wrap .i64 (((BitVec.ofInt 64 (IntKind.wrap .i64 ((IntKind.wrap .i64 (((BitVec.ofInt 64 (IntKind.wrap .i64 (((BitVec.ofInt 64 (Int.fdiv (IntKind.wrap .i64 ((IntKind.wrap .i64 (p0.h * 6364136223846793005)) + 1442695040888963407)) 8589934592) ^^^ BitVec.ofInt 64 (Int.fdiv (IntKind.wrap .i64 ((IntKind.wrap .i64 (p0.h * 6364136223846793005)) + 1442695040888963407)) 35184372088832)).toNat : Nat) : Int)) &&& BitVec.ofInt 64 255).toNat : Nat) : Int)) + (IntKind.wrap .i64 x1))) &&& BitVec.ofInt 64 255).toNat : Nat) : Int)))] [(0, [.bx [.fz (lC 1 eN_u8 p0.b), iC p0.i, iC (IntKind.wrap .i64 ((IntKind.wrap .i64 (p0.h * 6364136223846793005)) + 1442695040888963407))]])]) ?_ ?_
        · refine a_drawn (n := 15) [] (by kernel_rfl) (by kernel_rfl) ?_
          refine aa_take (fuel := 6) (listed' := #[true, true, true, true, true, true, true, true, true, false, false, false, false, false, false]) (st' := mk 58 [(0, pV 0), (35, iV (IntKind.wrap .i64 (((BitVec.ofInt 64 (IntKind.wrap .i64 (((BitVec.ofInt 64 (Int.fdiv (IntKind.wrap .i64 ((IntKind.wrap .i64 (p0.h * 6364136223846793005)) + 1442695040888963407)) 8589934592) ^^^ BitVec.ofInt 64 (Int.fdiv (IntKind.wrap .i64 ((IntKind.wrap .i64 (p0.h * 6364136223846793005)) + 1442695040888963407)) 35184372088832)).toNat : Nat) : Int)) &&& BitVec.ofInt 64 255).toNat : Nat) : Int))), (39, lV 1 eN_u8 p0.b), (43, iV p0.i)] [(0, [.bx [.fz (lC 1 eN_u8 p0.b), iC p0.i, iC (IntKind.wrap .i64 ((IntKind.wrap .i64 (p0.h * 6364136223846793005)) + 1442695040888963407))]])]) [0, 1, 2, 3, 4, 5, 6, 7, 8] [0, 35, 39, 43] tyOK (by kernel_rfl) (by kernel_rfl) (by kernel_rfl) ?_
          refine aa_index (i := 9) (d := 44) (size := 1) (n := p0.i) (rows := (p0.b).map eN_u8) (listed' := #[true, true, true, true, true, true, true, true, true, true, false, false, false, false, false]) (st1 := mk 58 [(0, pV 0), (35, iV (IntKind.wrap .i64 (((BitVec.ofInt 64 (IntKind.wrap .i64 (((BitVec.ofInt 64 (Int.fdiv (IntKind.wrap .i64 ((IntKind.wrap .i64 (p0.h * 6364136223846793005)) + 1442695040888963407)) 8589934592) ^^^ BitVec.ofInt 64 (Int.fdiv (IntKind.wrap .i64 ((IntKind.wrap .i64 (p0.h * 6364136223846793005)) + 1442695040888963407)) 35184372088832)).toNat : Nat) : Int)) &&& BitVec.ofInt 64 255).toNat : Nat) : Int))), (44, .one (.fp [.v (.int .u8 x1)] 0))] [(0, [.bx [.fz (lC 1 eN_u8 p0.b), iC p0.i, iC (IntKind.wrap .i64 ((IntKind.wrap .i64 (p0.h * 6364136223846793005)) + 1442695040888963407))]])]) (eN_u8 x1) [0, 35, 44] tyOK (by kernel_rfl) (by kernel_rfl) (getI_e ex1).1 (show ((p0.b).map eN_u8)[_]? = some _ from by rw [List.getElem?_map, (getI_e ex1).2]; rfl) (by kernel_rfl) (by kernel_rfl) (by kernel_rfl) (by kernel_rfl) ?_
          refine aa_take (fuel := 0) (listed' := #[true, true, true, true, true, true, true, true, true, true, true, true, true, true, true]) (st' := mk 58 [(0, pV 0), (3, iV (IntKind.wrap .i64 (((BitVec.ofInt 64 (IntKind.wrap .i64 ((IntKind.wrap .i64 (((BitVec.ofInt 64 (IntKind.wrap .i64 (((BitVec.ofInt 64 (Int.fdiv (IntKind.wrap .i64 ((IntKind.wrap .i64 (p0.h * 6364136223846793005)) + 1442695040888963407)) 8589934592) ^^^ BitVec.ofInt 64 (Int.fdiv (IntKind.wrap .i64 ((IntKind.wrap .i64 (p0.h * 6364136223846793005)) + 1442695040888963407)) 35184372088832)).toNat : Nat) : Int)) &&& BitVec.ofInt 64 255).toNat : Nat) : Int)) + (IntKind.wrap .i64 x1))) &&& BitVec.ofInt 64 255).toNat : Nat) : Int)))] [(0, [.bx [.fz (lC 1 eN_u8 p0.b), iC p0.i, iC (IntKind.wrap .i64 ((IntKind.wrap .i64 (p0.h * 6364136223846793005)) + 1442695040888963407))]])]) [10, 11, 12, 13, 14] [0, 3] tyOK (by kernel_rfl) (by kernel_rfl) (by kernel_rfl) ?_
          refine aa_done (by kernel_rfl) ?_
          show _ = _; kernel_rfl
        refine a_run [0, 3] tyOK (st1 := mk 58 [(0, pV 0), (3, iV (IntKind.wrap .i64 (((BitVec.ofInt 64 (IntKind.wrap .i64 ((IntKind.wrap .i64 (((BitVec.ofInt 64 (IntKind.wrap .i64 (((BitVec.ofInt 64 (Int.fdiv (IntKind.wrap .i64 ((IntKind.wrap .i64 (p0.h * 6364136223846793005)) + 1442695040888963407)) 8589934592) ^^^ BitVec.ofInt 64 (Int.fdiv (IntKind.wrap .i64 ((IntKind.wrap .i64 (p0.h * 6364136223846793005)) + 1442695040888963407)) 35184372088832)).toNat : Nat) : Int)) &&& BitVec.ofInt 64 255).toNat : Nat) : Int)) + (IntKind.wrap .i64 x1))) &&& BitVec.ofInt 64 255).toNat : Nat) : Int)))] [(0, [.bx [.fz (lC 1 eN_u8 p0.b), iC (IntKind.wrap .i64 (p0.i + 1)), iC (IntKind.wrap .i64 ((IntKind.wrap .i64 (p0.h * 6364136223846793005)) + 1442695040888963407))]])]) (by kernel_rfl) ?_
        obtain rfl := Option.some.inj h
        show ∃ _, _ ∧ Imp _ _ _
        refine ⟨_, rfl, ?_⟩
        exact imp_keepTo [0, 3] (by kernel_rfl) (imp_done rfl)
      · replace h := cF h1 h
        refine a_skip ?_
        obtain rfl := Option.some.inj h
        show ∃ _, _ ∧ Imp _ _ _
        refine ⟨_, rfl, ?_⟩
        exact imp_keepTo [0, 3] (by kernel_rfl) (imp_done rfl)
    intro j1 hj1
    replace h := ky1 _ hj1
    refine a_seq ?_
    refine a_run [0, 2] tyOK (st1 := mk 58 [(0, pV 0), (2, iV j1.v3)] [(0, [.bx [.fz (lC 1 eN_u8 p0.b), iC j1.w0_0_1, iC (IntKind.wrap .i64 ((IntKind.wrap .i64 (p0.h * 6364136223846793005)) + 1442695040888963407))]])]) (by kernel_rfl) ?_
    refine a_ret ?_
    obtain rfl := Option.some.inj h
    exact end_g (ob := []) (outs' := [.bx [.fz (lC 1 eN_u8 p0.b), iC j1.w0_0_1, iC (IntKind.wrap .i64 ((IntKind.wrap .i64 (p0.h * 6364136223846793005)) + 1442695040888963407))]]) (res' := iV j1.v3) (row' := []) (by kernel_rfl) trivial (by first | rfl | simp) (by first | rfl | simp) (by first | rfl | simp)

noncomputable def s_l01Below (p0 : L01Cur) (p1 : Int) : Option (L01Cur × Int) :=
 bif (decide (p1 ≤ 0)) then
 (some ((p0, 0)))
 else
 (bif (decide (p1 ≤ 256)) then
 (bnd (s_l01Byte p0) fun r1 =>
 chk (((p1 : Int) ≠ 0)) <|
 some ((r1.1, Int.tmod r1.2 p1)))
 else
 (bnd (s_l01Byte p0) fun r2 =>
 bnd (s_l01Byte r2.1) fun r3 =>
 bnd (s_l01Byte r3.1) fun r4 =>
 bnd (s_l01Byte r4.1) fun r5 =>
 chk (((p1 : Int) ≠ 0)) <|
 some ((r5.1, Int.tmod (IntKind.wrap .i64 ((IntKind.wrap .i64 ((IntKind.wrap .i64 ((IntKind.wrap .i64 (r2.2 * 16777216)) + (IntKind.wrap .i64 (r3.2 * 65536)))) + (IntKind.wrap .i64 (r4.2 * 256)))) + r5.2)) p1))))
set_option maxHeartbeats 4000000 in
/-- spec.l01Below -/
theorem k_s_l01Below (p0 : L01Cur) (p1 : Int) (v : L01Cur × Int) (h : s_l01Below p0 p1 = some v) : CallG Try.prog 55 [.bx [.fz (lC 1 eN_u8 p0.b), iC p0.i, iC p0.h]] [pV 0, iV p1] [.bx [.fz (lC 1 eN_u8 v.1.b), iC v.1.i, iC v.1.h]] (iV v.2) [] :=
  callG tyOK Try.func55 rfl (by simp) fun w S γ hS => by
    unfold s_l01Below at h
    refine a_seq ?_
    refine a_run [0, 1] tyOK (st1 := mk 37 [(0, pV 0), (1, iV p1)] [(0, [.bx [.fz (lC 1 eN_u8 p0.b), iC p0.i, iC p0.h]])]) (by kernel_rfl) ?_
    refine a_seq ?_
    refine a_seq ?_
    refine a_runM tyOK (l1 := [(0, pV 0), (1, iV p1), (10, bV (decide (p1 ≤ 0)))]) (by kernel_rfl) ?_
    refine a_cond (b := decide (p1 ≤ 0)) (by kernel_rfl) (fun h1 => ?_) (fun h1 => ?_)
    · replace h := cT h1 h
      refine a_seq ?_
      refine a_runM tyOK (l1 := [(0, pV 0), (4, iV 0)]) (by kernel_rfl) ?_
      refine a_ret ?_
      obtain rfl := Option.some.inj h
      exact end_g (ob := []) (outs' := [.bx [.fz (lC 1 eN_u8 p0.b), iC p0.i, iC p0.h]]) (res' := iV 0) (row' := []) (by kernel_rfl) trivial (by first | rfl | simp) (by first | rfl | simp) (by first | rfl | simp)
    · replace h := cF h1 h
      refine a_skip ?_
      refine a_seq ?_
      refine a_seq ?_
      refine a_runM tyOK (l1 := [(0, pV 0), (1, iV p1), (12, bV (decide (p1 ≤ 256)))]) (by kernel_rfl) ?_
      refine a_cond (b := decide (p1 ≤ 256)) (by kernel_rfl) (fun h2 => ?_) (fun h2 => ?_)
      · replace h := cT h2 h
        refine a_seq ?_
        refine a_ops [0, 1, 2, 3, 4] (by kernel_rfl) ?_
        refine ao_someM [0] [1, 2, 3, 4] tyOK (l1 := [(0, pV 0), (1, iV p1), (13, pV 0)]) (by kernel_rfl) ?_
        obtain ⟨r1, er1, h⟩ := bnd_e h
        refine ao_g2 (g := 99) (d := 14) (A := [pV 0]) (A' := [pV 0]) (cs := [.bx [.fz (lC 1 eN_u8 p0.b), iC p0.i, iC p0.h]]) (outs := [.bx [.fz (lC 1 eN_u8 r1.1.b), iC r1.1.i, iC r1.1.h]]) (ps := [[(0, 0)]]) (st1 := mk 37 [(0, pV 0), (1, iV p1), (14, iV r1.2)] [(0, [.bx [.fz (lC 1 eN_u8 r1.1.b), iC r1.1.i, iC r1.1.h]])]) [0, 1, 14] (k_s_l01Byte p0 r1 er1) Try.call99 (by kernel_rfl) (.cons (.one (.pl 0 rfl rfl)) .nil) (handedN_of (szs := [0]) (by kernel_rfl)) (by kernel_rfl) (.bx .nil) (wholeFIO _ _ _ _) (by kernel_rfl) (by kernel_rfl) ?_
        refine ao_someM [2] [3, 4] tyOK (l1 := [(0, pV 0), (14, iV r1.2), (15, iV p1)]) (by kernel_rfl) ?_
        obtain ⟨c1, h⟩ := chk_e h
        refine ao_q (d := 16) (c := ((p1 : Int) ≠ 0)) (tv := iV (Int.tmod r1.2 p1)) (st1 := mk 37 [(0, pV 0), (16, iV (Int.tmod r1.2 p1))] [(0, [.bx [.fz (lC 1 eN_u8 r1.1.b), iC r1.1.i, iC r1.1.h]])]) [0, 16] tyOK (by kernel_rfl) (by exact c1) (by kernel_rfl) ?_
        refine ao_someM [4] [] tyOK (l1 := [(0, pV 0), (4, iV (Int.tmod r1.2 p1))]) (by kernel_rfl) ?_
        refine ao_nil ?_
        refine a_ret ?_
        obtain rfl := Option.some.inj h
        exact end_g (ob := []) (outs' := [.bx [.fz (lC 1 eN_u8 r1.1.b), iC r1.1.i, iC r1.1.h]]) (res' := iV (Int.tmod r1.2 p1)) (row' := []) (by kernel_rfl) trivial (by first | rfl | simp) (by first | rfl | simp) (by first | rfl | simp)
      · replace h := cF h2 h
        refine a_skip ?_
        refine a_seq ?_
        refine a_ops [0, 1, 2] (by kernel_rfl) ?_
        refine ao_someM [0] [1, 2] tyOK (l1 := [(0, pV 0), (1, iV p1), (17, pV 0)]) (by kernel_rfl) ?_
        obtain ⟨r2, er2, h⟩ := bnd_e h
        refine ao_g2 (g := 99) (d := 18) (A := [pV 0]) (A' := [pV 0]) (cs := [.bx [.fz (lC 1 eN_u8 p0.b), iC p0.i, iC p0.h]]) (outs := [.bx [.fz (lC 1 eN_u8 r2.1.b), iC r2.1.i, iC r2.1.h]]) (ps := [[(0, 0)]]) (st1 := mk 37 [(0, pV 0), (1, iV p1), (18, iV r2.2)] [(0, [.bx [.fz (lC 1 eN_u8 r2.1.b), iC r2.1.i, iC r2.1.h]])]) [0, 1, 18] (k_s_l01Byte p0 r2 er2) Try.call99 (by kernel_rfl) (.cons (.one (.pl 0 rfl rfl)) .nil) (handedN_of (szs := [0]) (by kernel_rfl)) (by kernel_rfl) (.bx .nil) (wholeFIO _ _ _ _) (by kernel_rfl) (by kernel_rfl) ?_
        refine ao_someM [2] [] tyOK (l1 := [(0, pV 0), (1, iV p1), (5, iV r2.2)]) (by kernel_rfl) ?_
        refine ao_nil ?_
        refine a_seq ?_
        refine a_ops [0, 1, 2] (by kernel_rfl) ?_
        refine ao_someM [0] [1, 2] tyOK (l1 := [(0, pV 0), (1, iV p1), (5, iV r2.2), (19, pV 0)]) (by kernel_rfl) ?_
        obtain ⟨r3, er3, h⟩ := bnd_e h
        refine ao_g2 (g := 99) (d := 20) (A := [pV 0]) (A' := [pV 0]) (cs := [.bx [.fz (lC 1 eN_u8 r2.1.b), iC r2.1.i, iC r2.1.h]]) (outs := [.bx [.fz (lC 1 eN_u8 r3.1.b), iC r3.1.i, iC r3.1.h]]) (ps := [[(0, 0)]]) (st1 := mk 37 [(0, pV 0), (1, iV p1), (5, iV r2.2), (20, iV r3.2)] [(0, [.bx [.fz (lC 1 eN_u8 r3.1.b), iC r3.1.i, iC r3.1.h]])]) [0, 1, 5, 20] (k_s_l01Byte r2.1 r3 er3) Try.call99 (by kernel_rfl) (.cons (.one (.pl 0 rfl rfl)) .nil) (handedN_of (szs := [0]) (by kernel_rfl)) (by kernel_rfl) (.bx .nil) (wholeFIO _ _ _ _) (by kernel_rfl) (by kernel_rfl) ?_
        refine ao_someM [2] [] tyOK (l1 := [(0, pV 0), (1, iV p1), (5, iV r2.2), (6, iV r3.2)]) (by kernel_rfl) ?_
        refine ao_nil ?_
        refine a_seq ?_
        refine a_ops [0, 1, 2] (by kernel_rfl) ?_
        refine ao_someM [0] [1, 2] tyOK (l1 := [(0, pV 0), (1, iV p1), (5, iV r2.2), (6, iV r3.2), (21, pV 0)]) (by kernel_rfl) ?_
        obtain ⟨r4, er4, h⟩ := bnd_e h
        refine ao_g2 (g := 99) (d := 22) (A := [pV 0]) (A' := [pV 0]) (cs := [.bx [.fz (lC 1 eN_u8 r3.1.b), iC r3.1.i, iC r3.1.h]]) (outs := [.bx [.fz (lC 1 eN_u8 r4.1.b), iC r4.1.i, iC r4.1.h]]) (ps := [[(0, 0)]]) (st1 := mk 37 [(0, pV 0), (1, iV p1), (5, iV r2.2), (6, iV r3.2), (22, iV r4.2)] [(0, [.bx [.fz (lC 1 eN_u8 r4.1.b), iC r4.1.i, iC r4.1.h]])]) [0, 1, 5, 6, 22] (k_s_l01Byte r3.1 r4 er4) Try.call99 (by kernel_rfl) (.cons (.one (.pl 0 rfl rfl)) .nil) (handedN_of (szs := [0]) (by kernel_rfl)) (by kernel_rfl) (.bx .nil) (wholeFIO _ _ _ _) (by kernel_rfl) (by kernel_rfl) ?_
        refine ao_someM [2] [] tyOK (l1 := [(0, pV 0), (1, iV p1), (5, iV r2.2), (6, iV r3.2), (7, iV r4.2)]) (by kernel_rfl) ?_
        refine ao_nil ?_
        refine a_seq ?_
        refine a_ops [0, 1, 2] (by kernel_rfl) ?_
        refine ao_someM [0] [1, 2] tyOK (l1 := [(0, pV 0), (1, iV p1), (5, iV r2.2), (6, iV r3.2), (7, iV r4.2), (23, pV 0)]) (by kernel_rfl) ?_
        obtain ⟨r5, er5, h⟩ := bnd_e h
        refine ao_g2 (g := 99) (d := 24) (A := [pV 0]) (A' := [pV 0]) (cs := [.bx [.fz (lC 1 eN_u8 r4.1.b), iC r4.1.i, iC r4.1.h]]) (outs := [.bx [.fz (lC 1 eN_u8 r5.1.b), iC r5.1.i, iC r5.1.h]]) (ps := [[(0, 0)]]) (st1 := mk 37 [(0, pV 0), (1, iV p1), (5, iV r2.2), (6, iV r3.2), (7, iV r4.2), (24, iV r5.2)] [(0, [.bx [.fz (lC 1 eN_u8 r5.1.b), iC r5.1.i, iC r5.1.h]])]) [0, 1, 5, 6, 7, 24] (k_s_l01Byte r4.1 r5 er5) Try.call99 (by kernel_rfl) (.cons (.one (.pl 0 rfl rfl)) .nil) (handedN_of (szs := [0]) (by kernel_rfl)) (by kernel_rfl) (.bx .nil) (wholeFIO _ _ _ _) (by kernel_rfl) (by kernel_rfl) ?_
        refine ao_someM [2] [] tyOK (l1 := [(0, pV 0), (1, iV p1), (5, iV r2.2), (6, iV r3.2), (7, iV r4.2), (8, iV r5.2)]) (by kernel_rfl) ?_
        refine ao_nil ?_
        refine a_seq ?_
        refine a_ops [0, 1, 2, 3, 4, 5, 6, 7, 8, 9, 10, 11, 12] (by kernel_rfl) ?_
        refine ao_someM [0, 1, 2, 3, 4, 5, 6, 7, 8, 9, 10] [11, 12] tyOK (l1 := [(0, pV 0), (34, iV (IntKind.wrap .i64 ((IntKind.wrap .i64 ((IntKind.wrap .i64 ((IntKind.wrap .i64 (r2.2 * 16777216)) + (IntKind.wrap .i64 (r3.2 * 65536)))) + (IntKind.wrap .i64 (r4.2 * 256)))) + r5.2))), (35, iV p1)]) (by kernel_rfl) ?_
        obtain ⟨c2, h⟩ := chk_e h
        refine ao_q (d := 36) (c := ((p1 : Int) ≠ 0)) (tv := iV (Int.tmod (IntKind.wrap .i64 ((IntKind.wrap .i64 ((IntKind.wrap .i64 ((IntKind.wrap .i64 (r2.2 * 16777216)) + (IntKind.wrap .i64 (r3.2 * 65536)))) + (IntKind.wrap .i64 (r4.2 * 256)))) + r5.2)) p1)) (st1 := mk 37 [(0, pV 0), (36, iV (Int.tmod (IntKind.wrap .i64 ((IntKind.wrap .i64 ((IntKind.wrap .i64 ((IntKind.wrap .i64 (r2.2 * 16777216)) + (IntKind.wrap .i64 (r3.2 * 65536)))) + (IntKind.wrap .i64 (r4.2 * 256)))) + r5.2)) p1))] [(0, [.bx [.fz (lC 1 eN_u8 r5.1.b), iC r5.1.i, iC r5.1.h]])]) [0, 36] tyOK (by kernel_rfl) (by exact c2) (by kernel_rfl) ?_
        refine ao_someM [12] [] tyOK (l1 := [(0, pV 0), (4, iV (Int.tmod (IntKind.wrap .i64 ((IntKind.wrap .i64 ((IntKind.wrap .i64 ((IntKind.wrap .i64 (r2.2 * 16777216)) + (IntKind.wrap .i64 (r3.2 * 65536)))) + (IntKind.wrap .i64 (r4.2 * 256)))) + r5.2)) p1))]) (by kernel_rfl) ?_
        refine ao_nil ?_
        refine a_ret ?_
        obtain rfl := Option.some.inj h
        exact end_g (ob := []) (outs' := [.bx [.fz (lC 1 eN_u8 r5.1.b), iC r5.1.i, iC r5.1.h]]) (res' := iV (Int.tmod (IntKind.wrap .i64 ((IntKind.wrap .i64 ((IntKind.wrap .i64 ((IntKind.wrap .i64 (r2.2 * 16777216)) + (IntKind.wrap .i64 (r3.2 * 65536)))) + (IntKind.wrap .i64 (r4.2 * 256)))) + r5.2)) p1)) (row' := []) (by kernel_rfl) trivial (by first | rfl | simp) (by first | rfl | simp) (by first | rfl | simp)


end Go.Proofs.Ytagoajkiccgmjaa
namespace Go.Proofs.Ytagoajkiccgmjaa
open Go.Mv Go.RowKit
noncomputable def s_l07Tx (p0 : L01Cur) : Option (L01Cur × Tx) :=
 bnd (s_l01Below p0 3) fun r1 =>
 bnd (s_l01Below r1.1 2) fun r2 =>
 bnd (s_l01Below r2.1 3) fun r3 =>
 some ((r3.1, (⟨r1.2, IntKind.wrap .i64 (1 + r2.2), IntKind.wrap .i64 (1 + r3.2)⟩ : Tx)))
set_option maxHeartbeats 4000000 in
/-- spec.l07Tx -/
theorem k_s_l07Tx (p0 : L01Cur) (v : L01Cur × Tx) (h : s_l07Tx p0 = some v) : CallG Try.prog 97 [.bx [.fz (lC 1 eN_u8 p0.b), iC p0.i, iC p0.h]] [pV 0] [.bx [.fz (lC 1 eN_u8 v.1.b), iC v.1.i, iC v.1.h]] (.agg [.c (iC v.2.c), .c (iC v.2.e), .c (iC v.2.n)]) [] :=
  callG tyOK Try.func97 rfl (by simp) fun w S γ hS => by
    unfold s_l07Tx at h
    refine a_seq ?_
    refine a_run [0, 2] tyOK (st1 := mk 12 [(0, pV 0), (2, pV 2)] [(0, [.bx [.fz (lC 1 eN_u8 p0.b), iC p0.i, iC p0.h]]), (2, [.bx [iC 0, iC 0, iC 0]])]) (by kernel_rfl) ?_
    refine a_seq ?_
    refine a_ops [0, 1, 2, 3, 4, 5, 6, 7, 8, 9] (by kernel_rfl) ?_
    refine ao_someM [0] [1, 2, 3, 4, 5, 6, 7, 8, 9] tyOK (l1 := [(0, pV 0), (2, pV 2), (3, pV 0)]) (by kernel_rfl) ?_
    obtain ⟨r1, er1, h⟩ := bnd_e h
    refine ao_g2 (g := 55) (d := 4) (A := [pV 0, iV 3]) (A' := [pV 0, iV 3]) (cs := [.bx [.fz (lC 1 eN_u8 p0.b), iC p0.i, iC p0.h]]) (outs := [.bx [.fz (lC 1 eN_u8 r1.1.b), iC r1.1.i, iC r1.1.h]]) (ps := [[(0, 0)]]) (st1 := mk 12 [(0, pV 0), (2, pV 2), (4, iV r1.2)] [(0, [.bx [.fz (lC 1 eN_u8 r1.1.b), iC r1.1.i, iC r1.1.h]]), (2, [.bx [iC 0, iC 0, iC 0]])]) [0, 2, 4] (k_s_l01Below p0 3 r1 er1) Try.call55 (by kernel_rfl) (.cons (.one (.pl 0 rfl rfl)) (.cons (.one (.same rfl)) .nil)) (handedN_of (szs := [0]) (by kernel_rfl)) (by kernel_rfl) (.bx .nil) (wholeFIO _ _ _ _) (by kernel_rfl) (by kernel_rfl) ?_
    refine ao_someM [2] [3, 4, 5, 6, 7, 8, 9] tyOK (l1 := [(0, pV 0), (2, pV 2), (4, iV r1.2), (5, pV 0)]) (by kernel_rfl) ?_
    obtain ⟨r2, er2, h⟩ := bnd_e h
    refine ao_g2 (g := 55) (d := 6) (A := [pV 0, iV 2]) (A' := [pV 0, iV 2]) (cs := [.bx [.fz (lC 1 eN_u8 r1.1.b), iC r1.1.i, iC r1.1.h]]) (outs := [.bx [.fz (lC 1 eN_u8 r2.1.b), iC r2.1.i, iC r2.1.h]]) (ps := [[(0, 0)]]) (st1 := mk 12 [(0, pV 0), (2, pV 2), (4, iV r1.2), (6, iV r2.2)] [(0, [.bx [.fz (lC 1 eN_u8 r2.1.b), iC r2.1.i, iC r2.1.h]]), (2, [.bx [iC 0, iC 0, iC 0]])]) [0, 2, 4, 6] (k_s_l01Below r1.1 2 r2 er2) Try.call55 (by kernel_rfl) (.cons (.one (.pl 0 rfl rfl)) (.cons (.one (.same rfl)) .nil)) (handedN_of (szs := [0]) (by kernel_rfl)) (by kernel_rfl) (.bx .nil) (wholeFIO _ _ _ _) (by kernel_rfl) (by kernel_rfl) ?_
    refine ao_someM [4, 5] [6, 7, 8, 9] tyOK (l1 := [(0, pV 0), (2, pV 2), (4, iV r1.2), (7, iV (IntKind.wrap .i64 (1 + r2.2))), (8, pV 0)]) (by kernel_rfl) ?_
    obtain ⟨r3, er3, h⟩ := bnd_e h
    refine ao_g2 (g := 55) (d := 9) (A := [pV 0, iV 3]) (A' := [pV 0, iV 3]) (cs := [.bx [.fz (lC 1 eN_u8 r2.1.b), iC r2.1.i, iC r2.1.h]]) (outs := [.bx [.fz (lC 1 eN_u8 r3.1.b), iC r3.1.i, iC r3.1.h]]) (ps := [[(0, 0)]]) (st1 := mk 12 [(0, pV 0), (2, pV 2), (4, iV r1.2), (7, iV (IntKind.wrap .i64 (1 + r2.2))), (9, iV r3.2)] [(0, [.bx [.fz (lC 1 eN_u8 r3.1.b), iC r3.1.i, iC r3.1.h]]), (2, [.bx [iC 0, iC 0, iC 0]])]) [0, 2, 4, 7, 9] (k_s_l01Below r2.1 3 r3 er3) Try.call55 (by kernel_rfl) (.cons (.one (.pl 0 rfl rfl)) (.cons (.one (.same rfl)) .nil)) (handedN_of (szs := [0]) (by kernel_rfl)) (by kernel_rfl) (.bx .nil) (wholeFIO _ _ _ _) (by kernel_rfl) (by kernel_rfl) ?_
    refine ao_some [7, 8, 9] [] [0, 2] tyOK (st1 := mk 12 [(0, pV 0), (2, pV 2)] [(0, [.bx [.fz (lC 1 eN_u8 r3.1.b), iC r3.1.i, iC r3.1.h]]), (2, [.bx [iC r1.2, iC (IntKind.wrap .i64 (1 + r2.2)), iC (IntKind.wrap .i64 (1 + r3.2))]])]) (by kernel_rfl) ?_
    refine ao_nil ?_
    refine a_ret ?_
    obtain rfl := Option.some.inj h
    exact end_g (ob := []) (outs' := [.bx [.fz (lC 1 eN_u8 r3.1.b), iC r3.1.i, iC r3.1.h]]) (res' := .agg [.c (iC r1.2), .c (iC (IntKind.wrap .i64 (1 + r2.2))), .c (iC (IntKind.wrap .i64 (1 + r3.2)))]) (row' := []) (by kernel_rfl) trivial (by first | rfl | simp) (by first | rfl | simp) (by first | rfl | simp)

noncomputable def s_TxOk (p0 : Tx) : Bool :=
 bif (decide (p0.c ≥ 0)) then (bif (decide (p0.c ≤ 7)) then (bif (decide (p0.e ≥ 1)) then (bif (decide (p0.e ≤ 999)) then (bif (decide (p0.n ≥ 1)) then (decide (p0.n ≤ 999)) else false) else false) else false) else false) else false
set_option maxHeartbeats 4000000 in
/-- spec.TxOk -/
theorem k_s_TxOk (p0 : Tx) (v : Bool) (h : s_TxOk p0 = v) : CallOK Try.prog 103 [.agg [.c (iC p0.c), .c (iC p0.e), .c (iC p0.n)]] (bV v) [] :=
  callOK tyOK Try.func103 rfl fun w S hS => by
    unfold s_TxOk at h
    refine a_seq ?_
    refine a_run [1] tyOK (st1 := mk 31 [(1, pV 1)] [(1, [.bx [iC p0.c, iC p0.e, iC p0.n]])]) (by kernel_rfl) ?_
    refine a_seq ?_
    refine a_mid (mk 31 [(2, bV (bif (decide (p0.c ≥ 0)) then (bif (decide (p0.c ≤ 7)) then (bif (decide (p0.e ≥ 1)) then (bif (decide (p0.e ≤ 999)) then (bif (decide (p0.n ≥ 1)) then (decide (p0.n ≤ 999)) else false) else false) else false) else false) else false))] []) ?_ ?_
    · refine a_ops [0, 1, 2, 3, 4, 5, 6, 7, 8, 9, 10, 11, 12, 13, 14, 15, 16, 17, 18, 19, 20, 21, 22, 23, 24, 25, 26, 27, 28] (by kernel_rfl) ?_
      refine ao_someM [0, 1, 2, 3] [4, 5, 6, 7, 8, 9, 10, 11, 12, 13, 14, 15, 16, 17, 18, 19, 20, 21, 22, 23, 24, 25, 26, 27, 28] tyOK (l1 := [(1, pV 1), (6, bV (decide (p0.c ≥ 0)))]) (by kernel_rfl) ?_
      rcases Bool.eq_false_or_eq_true (decide (p0.c ≥ 0)) with h1 | h1
      · refine ao_saysM (k := 6) (t := bV (decide (p0.c ≥ 0))) (t' := bV true) (l1 := [(1, pV 1), (6, bV true)]) (by kernel_rfl) (by rw [h1]) (by kernel_rfl) ?_
        refine ao_someM [4, 5, 6, 7, 8] [9, 10, 11, 12, 13, 14, 15, 16, 17, 18, 19, 20, 21, 22, 23, 24, 25, 26, 27, 28] tyOK (l1 := [(1, pV 1), (11, bV (decide (p0.c ≤ 7)))]) (by kernel_rfl) ?_
        rcases Bool.eq_false_or_eq_true (decide (p0.c ≤ 7)) with h2 | h2
        · refine ao_saysM (k := 11) (t := bV (decide (p0.c ≤ 7))) (t' := bV true) (l1 := [(1, pV 1), (11, bV true)]) (by kernel_rfl) (by rw [h2]) (by kernel_rfl) ?_
          refine ao_someM [9, 10, 11, 12, 13] [14, 15, 16, 17, 18, 19, 20, 21, 22, 23, 24, 25, 26, 27, 28] tyOK (l1 := [(1, pV 1), (16, bV (decide (p0.e ≥ 1)))]) (by kernel_rfl) ?_
          rcases Bool.eq_false_or_eq_true (decide (p0.e ≥ 1)) with h3 | h3
          · refine ao_saysM (k := 16) (t := bV (decide (p0.e ≥ 1))) (t' := bV true) (l1 := [(1, pV 1), (16, bV true)]) (by kernel_rfl) (by rw [h3]) (by kernel_rfl) ?_
            refine ao_someM [14, 15, 16, 17, 18] [19, 20, 21, 22, 23, 24, 25, 26, 27, 28] tyOK (l1 := [(1, pV 1), (21, bV (decide (p0.e ≤ 999)))]) (by kernel_rfl) ?_
            rcases Bool.eq_false_or_eq_true (decide (p0.e ≤ 999)) with h4 | h4
            · refine ao_saysM (k := 21) (t := bV (decide (p0.e ≤ 999))) (t' := bV true) (l1 := [(1, pV 1), (21, bV true)]) (by kernel_rfl) (by rw [h4]) (by kernel_rfl) ?_
              refine ao_someM [19, 20, 21, 22, 23] [24, 25, 26, 27, 28] tyOK (l1 := [(1, pV 1), (26, bV (decide (p0.n ≥ 1)))]) (by kernel_rfl) ?_
              rcases Bool.eq_false_or_eq_true (decide (p0.n ≥ 1)) with h5 | h5
              · refine ao_saysM (k := 26) (t := bV (decide (p0.n ≥ 1))) (t' := bV true) (l1 := [(1, pV 1), (26, bV true)]) (by kernel_rfl) (by rw [h5]) (by kernel_rfl) ?_
                refine ao_some [24, 25, 26, 27, 28] [] [2] tyOK (st1 := mk 31 [(2, bV (decide (p0.n ≤ 999)))] []) (by kernel_rfl) ?_
                refine ao_nil ?_
                show mk 31 [(2, bV (decide (p0.n ≤ 999)))] [] = mk 31 [(2, bV (bif (decide (p0.c ≥ 0)) then (bif (decide (p0.c ≤ 7)) then (bif (decide (p0.e ≥ 1)) then (bif (decide (p0.e ≤ 999)) then (bif (decide (p0.n ≥ 1)) then (decide (p0.n ≤ 999)) else false) else false) else false) else false) else false))] []
                first | rfl | (simp only [h1, h2, h3, h4, h5, cond_true, cond_false]) | (simp only [h1, h2, h3, h4, h5, cond_true, cond_false]; rfl)
              · refine ao_saysM (k := 26) (t := bV (decide (p0.n ≥ 1))) (t' := bV false) (l1 := [(1, pV 1), (26, bV false)]) (by kernel_rfl) (by rw [h5]) (by kernel_rfl) ?_
                refine ao_some [24, 25, 26, 27, 28] [] [2] tyOK (st1 := mk 31 [(2, bV false)] []) (by kernel_rfl) ?_
                refine ao_nil ?_
                show mk 31 [(2, bV false)] [] = mk 31 [(2, bV (bif (decide (p0.c ≥ 0)) then (bif (decide (p0.c ≤ 7)) then (bif (decide (p0.e ≥ 1)) then (bif (decide (p0.e ≤ 999)) then (bif (decide (p0.n ≥ 1)) then (decide (p0.n ≤ 999)) else false) else false) else false) else false) else false))] []
                first | rfl | (simp only [h1, h2, h3, h4, h5, cond_true, cond_false]) | (simp only [h1, h2, h3, h4, h5, cond_true, cond_false]; rfl)
            · refine ao_saysM (k := 21) (t := bV (decide (p0.e ≤ 999))) (t' := bV false) (l1 := [(1, pV 1), (21, bV false)]) (by kernel_rfl) (by rw [h4]) (by kernel_rfl) ?_
              refine ao_some [19, 20, 21, 22, 23, 24, 25, 26, 27, 28] [] [2] tyOK (st1 := mk 31 [(2, bV false)] []) (by kernel_rfl) ?_
              refine ao_nil ?_
              show mk 31 [(2, bV false)] [] = mk 31 [(2, bV (bif (decide (p0.c ≥ 0)) then (bif (decide (p0.c ≤ 7)) then (bif (decide (p0.e ≥ 1)) then (bif (decide (p0.e ≤ 999)) then (bif (decide (p0.n ≥ 1)) then (decide (p0.n ≤ 999)) else false) else false) else false) else false) else false))] []
              first | rfl | (simp only [h1, h2, h3, h4, cond_true, cond_false]) | (simp only [h1, h2, h3, h4, cond_true, cond_false]; rfl)
          · refine ao_saysM (k := 16) (t := bV (decide (p0.e ≥ 1))) (t' := bV false) (l1 := [(1, pV 1), (16, bV false)]) (by kernel_rfl) (by rw [h3]) (by kernel_rfl) ?_
            refine ao_some [14, 15, 16, 17, 18, 19, 20, 21, 22, 23, 24, 25, 26, 27, 28] [] [2] tyOK (st1 := mk 31 [(2, bV false)] []) (by kernel_rfl) ?_
            refine ao_nil ?_
            show mk 31 [(2, bV false)] [] = mk 31 [(2, bV (bif (decide (p0.c ≥ 0)) then (bif (decide (p0.c ≤ 7)) then (bif (decide (p0.e ≥ 1)) then (bif (decide (p0.e ≤ 999)) then (bif (decide (p0.n ≥ 1)) then (decide (p0.n ≤ 999)) else false) else false) else false) else false) else false))] []
            first | rfl | (simp only [h1, h2, h3, cond_true, cond_false]) | (simp only [h1, h2, h3, cond_true, cond_false]; rfl)
        · refine ao_saysM (k := 11) (t := bV (decide (p0.c ≤ 7))) (t' := bV false) (l1 := [(1, pV 1), (11, bV false)]) (by kernel_rfl) (by rw [h2]) (by kernel_rfl) ?_
          refine ao_some [9, 10, 11, 12, 13, 14, 15, 16, 17, 18, 19, 20, 21, 22, 23, 24, 25, 26, 27, 28] [] [2] tyOK (st1 := mk 31 [(2, bV false)] []) (by kernel_rfl) ?_
          refine ao_nil ?_
          show mk 31 [(2, bV false)] [] = mk 31 [(2, bV (bif (decide (p0.c ≥ 0)) then (bif (decide (p0.c ≤ 7)) then (bif (decide (p0.e ≥ 1)) then (bif (decide (p0.e ≤ 999)) then (bif (decide (p0.n ≥ 1)) then (decide (p0.n ≤ 999)) else false) else false) else false) else false) else false))] []
          first | rfl | (simp only [h1, h2, cond_true, cond_false]) | (simp only [h1, h2, cond_true, cond_false]; rfl)
      · refine ao_saysM (k := 6) (t := bV (decide (p0.c ≥ 0))) (t' := bV false) (l1 := [(1, pV 1), (6, bV false)]) (by kernel_rfl) (by rw [h1]) (by kernel_rfl) ?_
        refine ao_some [4, 5, 6, 7, 8, 9, 10, 11, 12, 13, 14, 15, 16, 17, 18, 19, 20, 21, 22, 23, 24, 25, 26, 27, 28] [] [2] tyOK (st1 := mk 31 [(2, bV false)] []) (by kernel_rfl) ?_
        refine ao_nil ?_
        show mk 31 [(2, bV false)] [] = mk 31 [(2, bV (bif (decide (p0.c ≥ 0)) then (bif (decide (p0.c ≤ 7)) then (bif (decide (p0.e ≥ 1)) then (bif (decide (p0.e ≤ 999)) then (bif (decide (p0.n ≥ 1)) then (decide (p0.n ≤ 999)) else false) else false) else false) else false) else false))] []
        first | rfl | (simp only [h1, cond_true, cond_false]) | (simp only [h1, cond_true, cond_false]; rfl)
    refine a_ret ?_
    obtain rfl := h
    exact end_eq (res' := bV (bif (decide (p0.c ≥ 0)) then (bif (decide (p0.c ≤ 7)) then (bif (decide (p0.e ≥ 1)) then (bif (decide (p0.e ≤ 999)) then (bif (decide (p0.n ≥ 1)) then (decide (p0.n ≤ 999)) else false) else false) else false) else false) else false)) (by kernel_rfl) (by first | rfl | simp)

noncomputable def s_RangeOk (p0 : Range) : Bool :=
 bif (bif (decide (((p0.lo.size : Int)) > 17)) then true else (decide (((p0.hi.size : Int)) > 17))) then
 (false)
 else
 (bif ((p0.hi.toList == ((⟨#[]⟩ : ByteArray)).toList)) then true else (Op.bytesLess p0.lo.toList p0.hi.toList))
set_option maxHeartbeats 4000000 in
/-- spec.RangeOk -/
theorem k_s_RangeOk (p0 : Range) (v : Bool) (h : s_RangeOk p0 = v) : CallOK Try.prog 86 [.agg [.c (sC p0.lo), .c (sC p0.hi)]] (bV v) [] :=
  callOK tyOK Try.func86 rfl fun w S hS => by
    unfold s_RangeOk at h
    refine a_seq ?_
    refine a_run [1] tyOK (st1 := mk 23 [(1, pV 1)] [(1, [.bx [sC p0.lo, sC p0.hi]])]) (by kernel_rfl) ?_
    refine a_seq ?_
    refine a_seq ?_
    refine a_mid (mk 23 [(1, pV 1), (12, bV (bif (decide (((p0.lo.size : Int)) > 17)) then true else (decide (((p0.hi.size : Int)) > 17))))] [(1, [.bx [sC p0.lo, sC p0.hi]])]) ?_ ?_
    · refine a_ops [0, 1, 2, 3, 4, 5, 6, 7, 8, 9] (by kernel_rfl) ?_
      refine ao_someM [0, 1, 2, 3, 4] [5, 6, 7, 8, 9] tyOK (l1 := [(1, pV 1), (7, bV (decide (((p0.lo.size : Int)) > 17)))]) (by kernel_rfl) ?_
      rcases Bool.eq_false_or_eq_true (decide (((p0.lo.size : Int)) > 17)) with h1 | h1
      · refine ao_saysM (k := 7) (t := bV (decide (((p0.lo.size : Int)) > 17))) (t' := bV true) (l1 := [(1, pV 1), (7, bV true)]) (by kernel_rfl) (by rw [h1]) (by kernel_rfl) ?_
        refine ao_someM [5, 6, 7, 8, 9] [] tyOK (l1 := [(1, pV 1), (12, bV true)]) (by kernel_rfl) ?_
        refine ao_nil ?_
        show mk 23 [(1, pV 1), (12, bV true)] [(1, [.bx [sC p0.lo, sC p0.hi]])] = mk 23 [(1, pV 1), (12, bV (bif (decide (((p0.lo.size : Int)) > 17)) then true else (decide (((p0.hi.size : Int)) > 17))))] [(1, [.bx [sC p0.lo, sC p0.hi]])]
        first | rfl | (simp only [h1, cond_true, cond_false]) | (simp only [h1, cond_true, cond_false]; rfl)
      · refine ao_saysM (k := 7) (t := bV (decide (((p0.lo.size : Int)) > 17))) (t' := bV false) (l1 := [(1, pV 1), (7, bV false)]) (by kernel_rfl) (by rw [h1]) (by kernel_rfl) ?_
        refine ao_someM [5, 6, 7, 8, 9] [] tyOK (l1 := [(1, pV 1), (12, bV (decide (((p0.hi.size : Int)) > 17)))]) (by kernel_rfl) ?_
        refine ao_nil ?_
        show mk 23 [(1, pV 1), (12, bV (decide (((p0.hi.size : Int)) > 17)))] [(1, [.bx [sC p0.lo, sC p0.hi]])] = mk 23 [(1, pV 1), (12, bV (bif (decide (((p0.lo.size : Int)) > 17)) then true else (decide (((p0.hi.size : Int)) > 17))))] [(1, [.bx [sC p0.lo, sC p0.hi]])]
        first | rfl | (simp only [h1, cond_true, cond_false]) | (simp only [h1, cond_true, cond_false]; rfl)
    refine a_cond (b := bif (decide (((p0.lo.size : Int)) > 17)) then true else (decide (((p0.hi.size : Int)) > 17))) (by kernel_rfl) (fun h1 => ?_) (fun h1 => ?_)
    · replace h := cT h1 h
      refine a_seq ?_
      refine a_run [2] tyOK (st1 := mk 23 [(2, bV false)] []) (by kernel_rfl) ?_
      refine a_ret ?_
      obtain rfl := h
      exact end_eq (res' := bV false) (by kernel_rfl) (by first | rfl | simp)
    · replace h := cF h1 h
      refine a_skip ?_
      refine a_seq ?_
      refine a_mid (mk 23 [(2, bV (bif ((p0.hi.toList == ((⟨#[]⟩ : ByteArray)).toList)) then true else (Op.bytesLess p0.lo.toList p0.hi.toList)))] []) ?_ ?_
      · refine a_ops [0, 1, 2, 3, 4, 5, 6, 7, 8, 9, 10] (by kernel_rfl) ?_
        refine ao_someM [0, 1, 2, 3] [4, 5, 6, 7, 8, 9, 10] tyOK (l1 := [(1, pV 1), (16, bV ((p0.hi.toList == ((⟨#[]⟩ : ByteArray)).toList)))]) (by kernel_rfl) ?_
        rcases Bool.eq_false_or_eq_true ((p0.hi.toList == ((⟨#[]⟩ : ByteArray)).toList)) with h2 | h2
        · refine ao_saysM (k := 16) (t := bV ((p0.hi.toList == ((⟨#[]⟩ : ByteArray)).toList))) (t' := bV true) (l1 := [(1, pV 1), (16, bV true)]) (by kernel_rfl) (by rw [h2]) (by kernel_rfl) ?_
          refine ao_some [4, 5, 6, 7, 8, 9, 10] [] [2] tyOK (st1 := mk 23 [(2, bV true)] []) (by kernel_rfl) ?_
          refine ao_nil ?_
          show mk 23 [(2, bV true)] [] = mk 23 [(2, bV (bif ((p0.hi.toList == ((⟨#[]⟩ : ByteArray)).toList)) then true else (Op.bytesLess p0.lo.toList p0.hi.toList)))] []
          first | rfl | (simp only [h2, cond_true, cond_false]) | (simp only [h2, cond_true, cond_false]; rfl)
        · refine ao_saysM (k := 16) (t := bV ((p0.hi.toList == ((⟨#[]⟩ : ByteArray)).toList))) (t' := bV false) (l1 := [(1, pV 1), (16, bV false)]) (by kernel_rfl) (by rw [h2]) (by kernel_rfl) ?_
          refine ao_some [4, 5, 6, 7, 8, 9, 10] [] [2] tyOK (st1 := mk 23 [(2, bV (Op.bytesLess p0.lo.toList p0.hi.toList))] []) (by kernel_rfl) ?_
          refine ao_nil ?_
          show mk 23 [(2, bV (Op.bytesLess p0.lo.toList p0.hi.toList))] [] = mk 23 [(2, bV (bif ((p0.hi.toList == ((⟨#[]⟩ : ByteArray)).toList)) then true else (Op.bytesLess p0.lo.toList p0.hi.toList)))] []
          first | rfl | (simp only [h2, cond_true, cond_false]) | (simp only [h2, cond_true, cond_false]; rfl)
      refine a_ret ?_
      obtain rfl := h
      exact end_eq (res' := bV (bif ((p0.hi.toList == ((⟨#[]⟩ : ByteArray)).toList)) then true else (Op.bytesLess p0.lo.toList p0.hi.toList))) (by kernel_rfl) (by first | rfl | simp)

noncomputable def s_l07LockOk (p0 : Lock) : Bool :=
 bif (s_TxOk p0.tx) then (s_RangeOk p0.range) else false
set_option maxHeartbeats 4000000 in
/-- spec.l07LockOk -/
theorem k_s_l07LockOk (p0 : Lock) (v : Bool) (h : s_l07LockOk p0 = v) : CallOK Try.prog 62 [.agg [.c (iC p0.tx.c), .c (iC p0.tx.e), .c (iC p0.tx.n), .c (sC p0.range.lo), .c (sC p0.range.hi), .c (bC p0.ex)]] (bV v) [] :=
  callOK tyOK Try.func62 rfl fun w S hS => by
    unfold s_l07LockOk at h
    refine a_seq ?_
    refine a_run [1] tyOK (st1 := mk 11 [(1, pV 1)] [(1, [.bx [iC p0.tx.c, iC p0.tx.e, iC p0.tx.n, sC p0.range.lo, sC p0.range.hi, bC p0.ex]])]) (by kernel_rfl) ?_
    refine a_seq ?_
    refine a_mid (mk 11 [(2, bV (bif (s_TxOk p0.tx) then (s_RangeOk p0.range) else false))] []) ?_ ?_
    · refine a_ops [0, 1, 2, 3, 4, 5, 6, 7, 8] (by kernel_rfl) ?_
      refine ao_someM [0, 1] [2, 3, 4, 5, 6, 7, 8] tyOK (l1 := [(1, pV 1), (4, .agg [.c (iC p0.tx.c), .c (iC p0.tx.e), .c (iC p0.tx.n)])]) (by kernel_rfl) ?_
      refine ao_enterM (f := 103) (d := 5) (A := [.agg [.c (iC p0.tx.c), .c (iC p0.tx.e), .c (iC p0.tx.n)]]) (l1 := [(1, pV 1), (5, bV (s_TxOk p0.tx))]) (k_s_TxOk p0.tx _ rfl) Try.call103 (by kernel_rfl) (by kernel_rfl) (by kernel_rfl) ?_
      refine ao_someM [3] [4, 5, 6, 7, 8] tyOK (l1 := [(1, pV 1), (6, bV (s_TxOk p0.tx))]) (by kernel_rfl) ?_
      rcases Bool.eq_false_or_eq_true (s_TxOk p0.tx) with h1 | h1
      · refine ao_saysM (k := 6) (t := bV (s_TxOk p0.tx)) (t' := bV true) (l1 := [(1, pV 1), (6, bV true)]) (by kernel_rfl) (by rw [h1]) (by kernel_rfl) ?_
        refine ao_some [4, 5] [6, 7, 8] [6, 8] tyOK (st1 := mk 11 [(6, bV true), (8, .agg [.c (sC p0.range.lo), .c (sC p0.range.hi)])] []) (by kernel_rfl) ?_
        refine ao_enterM (f := 86) (d := 9) (A := [.agg [.c (sC p0.range.lo), .c (sC p0.range.hi)]]) (l1 := [(6, bV true), (9, bV (s_RangeOk p0.range))]) (k_s_RangeOk p0.range _ rfl) Try.call86 (by kernel_rfl) (by kernel_rfl) (by kernel_rfl) ?_
        refine ao_someM [7, 8] [] tyOK (l1 := [(2, bV (s_RangeOk p0.range))]) (by kernel_rfl) ?_
        refine ao_nil ?_
        show mk 11 [(2, bV (s_RangeOk p0.range))] [] = mk 11 [(2, bV (bif (s_TxOk p0.tx) then (s_RangeOk p0.range) else false))] []
        first | rfl | (simp only [h1, cond_true, cond_false]) | (simp only [h1, cond_true, cond_false]; rfl)
      · refine ao_saysM (k := 6) (t := bV (s_TxOk p0.tx)) (t' := bV false) (l1 := [(1, pV 1), (6, bV false)]) (by kernel_rfl) (by rw [h1]) (by kernel_rfl) ?_
        refine ao_some [4, 5, 6, 7, 8] [] [2] tyOK (st1 := mk 11 [(2, bV false)] []) (by kernel_rfl) ?_
        refine ao_nil ?_
        show mk 11 [(2, bV false)] [] = mk 11 [(2, bV (bif (s_TxOk p0.tx) then (s_RangeOk p0.range) else false))] []
        first | rfl | (simp only [h1, cond_true, cond_false]) | (simp only [h1, cond_true, cond_false]; rfl)
    refine a_ret ?_
    obtain rfl := h
    exact end_eq (res' := bV (bif (s_TxOk p0.tx) then (s_RangeOk p0.range) else false)) (by kernel_rfl) (by first | rfl | simp)


end Go.Proofs.Ytagoajkiccgmjaa
namespace Go.Proofs.Ytagoajkiccgmjaa
open Go.Mv Go.RowKit
noncomputable def s_RangeBoth (p0 : Range) (p1 : Range) : Option (Range × Bool) :=
 bif (bif (!(s_RangeOk p0)) then true else (!(s_RangeOk p1))) then
 (some (((⟨(⟨#[]⟩ : ByteArray), (⟨#[]⟩ : ByteArray)⟩ : Range), false)))
 else
 (bnd (bif (!(Op.bytesLess p1.lo.toList p0.lo.toList || p1.lo.toList == p0.lo.toList)) then
 (some p1.lo)
 else
 (some p0.lo)) fun j1 =>
 bnd (bif (bif ((p0.hi.toList == ((⟨#[]⟩ : ByteArray)).toList)) then true else (bif (!(p1.hi.toList == ((⟨#[]⟩ : ByteArray)).toList)) then (Op.bytesLess p1.hi.toList p0.hi.toList) else false)) then
 (some p1.hi)
 else
 (some p0.hi)) fun j2 =>
 bif (!(s_RangeOk ((⟨j1, j2⟩ : Range)))) then
 (some (((⟨(⟨#[]⟩ : ByteArray), (⟨#[]⟩ : ByteArray)⟩ : Range), false)))
 else
 (some (((⟨j1, j2⟩ : Range), true))))
set_option maxHeartbeats 4000000 in
/-- spec.RangeBoth -/
theorem k_s_RangeBoth (p0 : Range) (p1 : Range) (v : Range × Bool) (h : s_RangeBoth p0 p1 = some v) : CallOK Try.prog 130 [.agg [.c (sC p0.lo), .c (sC p0.hi)], .agg [.c (sC p1.lo), .c (sC p1.hi)]] (.tup [.agg [.c (sC v.1.lo), .c (sC v.1.hi)], .one (.c (bC v.2))]) [] :=
  callOK tyOK Try.func130 rfl fun w S hS => by
    unfold s_RangeBoth at h
    refine a_seq ?_
    refine a_run [2, 3, 4] tyOK (st1 := mk 46 [(2, pV 2), (3, pV 3), (4, pV 4)] [(2, [.bx [sC p0.lo, sC p0.hi]]), (3, [.bx [sC p1.lo, sC p1.hi]]), (4, [.bx [sC ((⟨#[]⟩ : ByteArray)), sC ((⟨#[]⟩ : ByteArray))]])]) (by kernel_rfl) ?_
    refine a_seq ?_
    refine a_seq ?_
    refine a_mid (mk 46 [(2, pV 2), (3, pV 3), (4, pV 4), (13, bV (bif (!(s_RangeOk p0)) then true else (!(s_RangeOk p1))))] [(2, [.bx [sC p0.lo, sC p0.hi]]), (3, [.bx [sC p1.lo, sC p1.hi]]), (4, [.bx [sC ((⟨#[]⟩ : ByteArray)), sC ((⟨#[]⟩ : ByteArray))]])]) ?_ ?_
    · refine a_ops [0, 1, 2, 3, 4, 5, 6, 7] (by kernel_rfl) ?_
      refine ao_someM [0] [1, 2, 3, 4, 5, 6, 7] tyOK (l1 := [(2, pV 2), (3, pV 3), (4, pV 4), (6, .agg [.c (sC p0.lo), .c (sC p0.hi)])]) (by kernel_rfl) ?_
      refine ao_enterM (f := 86) (d := 7) (A := [.agg [.c (sC p0.lo), .c (sC p0.hi)]]) (l1 := [(2, pV 2), (3, pV 3), (4, pV 4), (7, bV (s_RangeOk p0))]) (k_s_RangeOk p0 _ rfl) Try.call86 (by kernel_rfl) (by kernel_rfl) (by kernel_rfl) ?_
      refine ao_someM [2, 3] [4, 5, 6, 7] tyOK (l1 := [(2, pV 2), (3, pV 3), (4, pV 4), (9, bV (!(s_RangeOk p0)))]) (by kernel_rfl) ?_
      rcases Bool.eq_false_or_eq_true (!(s_RangeOk p0)) with h1 | h1
      · refine ao_saysM (k := 9) (t := bV (!(s_RangeOk p0))) (t' := bV true) (l1 := [(2, pV 2), (3, pV 3), (4, pV 4), (9, bV true)]) (by kernel_rfl) (by rw [h1]) (by kernel_rfl) ?_
        refine ao_someM [4, 5, 6, 7] [] tyOK (l1 := [(2, pV 2), (3, pV 3), (4, pV 4), (13, bV true)]) (by kernel_rfl) ?_
        refine ao_nil ?_
        show mk 46 [(2, pV 2), (3, pV 3), (4, pV 4), (13, bV true)] [(2, [.bx [sC p0.lo, sC p0.hi]]), (3, [.bx [sC p1.lo, sC p1.hi]]), (4, [.bx [sC ((⟨#[]⟩ : ByteArray)), sC ((⟨#[]⟩ : ByteArray))]])] = mk 46 [(2, pV 2), (3, pV 3), (4, pV 4), (13, bV (bif (!(s_RangeOk p0)) then true else (!(s_RangeOk p1))))] [(2, [.bx [sC p0.lo, sC p0.hi]]), (3, [.bx [sC p1.lo, sC p1.hi]]), (4, [.bx [sC ((⟨#[]⟩ : ByteArray)), sC ((⟨#[]⟩ : ByteArray))]])]
        first | rfl | (simp only [h1, cond_true, cond_false]) | (simp only [h1, cond_true, cond_false]; rfl)
      · refine ao_saysM (k := 9) (t := bV (!(s_RangeOk p0))) (t' := bV false) (l1 := [(2, pV 2), (3, pV 3), (4, pV 4), (9, bV false)]) (by kernel_rfl) (by rw [h1]) (by kernel_rfl) ?_
        refine ao_someM [4] [5, 6, 7] tyOK (l1 := [(2, pV 2), (3, pV 3), (4, pV 4), (9, bV false), (10, .agg [.c (sC p1.lo), .c (sC p1.hi)])]) (by kernel_rfl) ?_
        refine ao_enterM (f := 86) (d := 11) (A := [.agg [.c (sC p1.lo), .c (sC p1.hi)]]) (l1 := [(2, pV 2), (3, pV 3), (4, pV 4), (9, bV false), (11, bV (s_RangeOk p1))]) (k_s_RangeOk p1 _ rfl) Try.call86 (by kernel_rfl) (by kernel_rfl) (by kernel_rfl) ?_
        refine ao_someM [6, 7] [] tyOK (l1 := [(2, pV 2), (3, pV 3), (4, pV 4), (13, bV (!(s_RangeOk p1)))]) (by kernel_rfl) ?_
        refine ao_nil ?_
        show mk 46 [(2, pV 2), (3, pV 3), (4, pV 4), (13, bV (!(s_RangeOk p1)))] [(2, [.bx [sC p0.lo, sC p0.hi]]), (3, [.bx [sC p1.lo, sC p1.hi]]), (4, [.bx [sC ((⟨#[]⟩ : ByteArray)), sC ((⟨#[]⟩ : ByteArray))]])] = mk 46 [(2, pV 2), (3, pV 3), (4, pV 4), (13, bV (bif (!(s_RangeOk p0)) then true else (!(s_RangeOk p1))))] [(2, [.bx [sC p0.lo, sC p0.hi]]), (3, [.bx [sC p1.lo, sC p1.hi]]), (4, [.bx [sC ((⟨#[]⟩ : ByteArray)), sC ((⟨#[]⟩ : ByteArray))]])]
        first | rfl | (simp only [h1, cond_true, cond_false]) | (simp only [h1, cond_true, cond_false]; rfl)
    refine a_cond (b := bif (!(s_RangeOk p0)) then true else (!(s_RangeOk p1))) (by kernel_rfl) (fun h1 => ?_) (fun h1 => ?_)
    · replace h := cT h1 h
      refine a_seq ?_
      refine a_run [4, 5] tyOK (st1 := mk 46 [(4, pV 4), (5, bV false)] [(4, [.bx [sC ((⟨#[]⟩ : ByteArray)), sC ((⟨#[]⟩ : ByteArray))]])]) (by kernel_rfl) ?_
      refine a_ret ?_
      obtain rfl := Option.some.inj h
      exact end_eq (res' := .tup [.agg [.c (sC ((⟨#[]⟩ : ByteArray))), .c (sC ((⟨#[]⟩ : ByteArray)))], .one (.c (bC false))]) (by kernel_rfl) (by first | rfl | simp)
    · replace h := cF h1 h
      refine a_skip ?_
      refine a_seq ?_
      refine a_seq ?_
      refine a_runM tyOK (l1 := [(2, pV 2), (3, pV 3), (4, pV 4), (19, bV (!(Op.bytesLess p1.lo.toList p0.lo.toList || p1.lo.toList == p0.lo.toList)))]) (by kernel_rfl) ?_
      obtain ⟨y1, h, ky1⟩ := bndJ_e h
      refine a_joinT (ι := ByteArray) (fun j => mk 46 [(2, pV 2), (3, pV 3), (4, pV 4)] [(2, [.bx [sC j, sC p0.hi]]), (3, [.bx [sC p1.lo, sC p1.hi]]), (4, [.bx [sC ((⟨#[]⟩ : ByteArray)), sC ((⟨#[]⟩ : ByteArray))]])]) (fun j => y1 = j) ?_ ?_
      · refine a_cond (b := !(Op.bytesLess p1.lo.toList p0.lo.toList || p1.lo.toList == p0.lo.toList)) (by kernel_rfl) (fun h2 => ?_) (fun h2 => ?_)
        · replace h := cT h2 h
          refine a_run [2, 3, 4] tyOK (st1 := mk 46 [(2, pV 2), (3, pV 3), (4, pV 4)] [(2, [.bx [sC p1.lo, sC p0.hi]]), (3, [.bx [sC p1.lo, sC p1.hi]]), (4, [.bx [sC ((⟨#[]⟩ : ByteArray)), sC ((⟨#[]⟩ : ByteArray))]])]) (by kernel_rfl) ?_
          obtain rfl := Option.some.inj h
          show ∃ _, _ ∧ Imp _ _ _
          refine ⟨_, rfl, ?_⟩
          exact imp_keepTo [2, 3, 4] (by kernel_rfl) (imp_done rfl)
        · replace h := cF h2 h
          refine a_skip ?_
          obtain rfl := Option.some.inj h
          show ∃ _, _ ∧ Imp _ _ _
          refine ⟨_, rfl, ?_⟩
          exact imp_keepTo [2, 3, 4] (by kernel_rfl) (imp_done rfl)
      intro j1 hj1
      replace h := ky1 _ hj1
      refine a_seq ?_
      refine a_seq ?_
      refine a_mid (mk 46 [(2, pV 2), (3, pV 3), (4, pV 4), (37, bV (bif ((p0.hi.toList == ((⟨#[]⟩ : ByteArray)).toList)) then true else (bif (!(p1.hi.toList == ((⟨#[]⟩ : ByteArray)).toList)) then (Op.bytesLess p1.hi.toList p0.hi.toList) else false)))] [(2, [.bx [sC j1, sC p0.hi]]), (3, [.bx [sC p1.lo, sC p1.hi]]), (4, [.bx [sC ((⟨#[]⟩ : ByteArray)), sC ((⟨#[]⟩ : ByteArray))]])]) ?_ ?_
      · refine a_ops [0, 1, 2, 3, 4, 5, 6, 7, 8, 9, 10, 11, 12, 13, 14] (by kernel_rfl) ?_
        refine ao_some [0, 1, 2, 3] [4, 5, 6, 7, 8, 9, 10, 11, 12, 13, 14] [2, 3, 4, 26] tyOK (st1 := mk 46 [(2, pV 2), (3, pV 3), (4, pV 4), (26, bV ((p0.hi.toList == ((⟨#[]⟩ : ByteArray)).toList)))] [(2, [.bx [sC j1, sC p0.hi]]), (3, [.bx [sC p1.lo, sC p1.hi]]), (4, [.bx [sC ((⟨#[]⟩ : ByteArray)), sC ((⟨#[]⟩ : ByteArray))]])]) (by kernel_rfl) ?_
        rcases Bool.eq_false_or_eq_true ((p0.hi.toList == ((⟨#[]⟩ : ByteArray)).toList)) with h3 | h3
        · refine ao_saysM (k := 26) (t := bV ((p0.hi.toList == ((⟨#[]⟩ : ByteArray)).toList))) (t' := bV true) (l1 := [(2, pV 2), (3, pV 3), (4, pV 4), (26, bV true)]) (by kernel_rfl) (by rw [h3]) (by kernel_rfl) ?_
          refine ao_someM [4, 5, 6, 7, 8, 9, 10, 11, 12, 13, 14] [] tyOK (l1 := [(2, pV 2), (3, pV 3), (4, pV 4), (37, bV true)]) (by kernel_rfl) ?_
          refine ao_nil ?_
          show mk 46 [(2, pV 2), (3, pV 3), (4, pV 4), (37, bV true)] [(2, [.bx [sC j1, sC p0.hi]]), (3, [.bx [sC p1.lo, sC p1.hi]]), (4, [.bx [sC ((⟨#[]⟩ : ByteArray)), sC ((⟨#[]⟩ : ByteArray))]])] = mk 46 [(2, pV 2), (3, pV 3), (4, pV 4), (37, bV (bif ((p0.hi.toList == ((⟨#[]⟩ : ByteArray)).toList)) then true else (bif (!(p1.hi.toList == ((⟨#[]⟩ : ByteArray)).toList)) then (Op.bytesLess p1.hi.toList p0.hi.toList) else false)))] [(2, [.bx [sC j1, sC p0.hi]]), (3, [.bx [sC p1.lo, sC p1.hi]]), (4, [.bx [sC ((⟨#[]⟩ : ByteArray)), sC ((⟨#[]⟩ : ByteArray))]])]
          first | rfl | (simp only [h3, cond_true, cond_false]) | (simp only [h3, cond_true, cond_false]; rfl)
        · refine ao_saysM (k := 26) (t := bV ((p0.hi.toList == ((⟨#[]⟩ : ByteArray)).toList))) (t' := bV false) (l1 := [(2, pV 2), (3, pV 3), (4, pV 4), (26, bV false)]) (by kernel_rfl) (by rw [h3]) (by kernel_rfl) ?_
          refine ao_someM [4, 5, 6, 7] [8, 9, 10, 11, 12, 13, 14] tyOK (l1 := [(2, pV 2), (3, pV 3), (4, pV 4), (26, bV false), (30, bV (!(p1.hi.toList == ((⟨#[]⟩ : ByteArray)).toList)))]) (by kernel_rfl) ?_
          rcases Bool.eq_false_or_eq_true (!(p1.hi.toList == ((⟨#[]⟩ : ByteArray)).toList)) with h4 | h4
          · refine ao_saysM (k := 30) (t := bV (!(p1.hi.toList == ((⟨#[]⟩ : ByteArray)).toList))) (t' := bV true) (l1 := [(2, pV 2), (3, pV 3), (4, pV 4), (26, bV false), (30, bV true)]) (by kernel_rfl) (by rw [h4]) (by kernel_rfl) ?_
            refine ao_someM [8, 9, 10, 11, 12, 13, 14] [] tyOK (l1 := [(2, pV 2), (3, pV 3), (4, pV 4), (37, bV (Op.bytesLess p1.hi.toList p0.hi.toList))]) (by kernel_rfl) ?_
            refine ao_nil ?_
            show mk 46 [(2, pV 2), (3, pV 3), (4, pV 4), (37, bV (Op.bytesLess p1.hi.toList p0.hi.toList))] [(2, [.bx [sC j1, sC p0.hi]]), (3, [.bx [sC p1.lo, sC p1.hi]]), (4, [.bx [sC ((⟨#[]⟩ : ByteArray)), sC ((⟨#[]⟩ : ByteArray))]])] = mk 46 [(2, pV 2), (3, pV 3), (4, pV 4), (37, bV (bif ((p0.hi.toList == ((⟨#[]⟩ : ByteArray)).toList)) then true else (bif (!(p1.hi.toList == ((⟨#[]⟩ : ByteArray)).toList)) then (Op.bytesLess p1.hi.toList p0.hi.toList) else false)))] [(2, [.bx [sC j1, sC p0.hi]]), (3, [.bx [sC p1.lo, sC p1.hi]]), (4, [.bx [sC ((⟨#[]⟩ : ByteArray)), sC ((⟨#[]⟩ : ByteArray))]])]
            first | rfl | (simp only [h3, h4, cond_true, cond_false]) | (simp only [h3, h4, cond_true, cond_false]; rfl)
          · refine ao_saysM (k := 30) (t := bV (!(p1.hi.toList == ((⟨#[]⟩ : ByteArray)).toList))) (t' := bV false) (l1 := [(2, pV 2), (3, pV 3), (4, pV 4), (26, bV false), (30, bV false)]) (by kernel_rfl) (by rw [h4]) (by kernel_rfl) ?_
            refine ao_someM [8, 9, 10, 11, 12, 13, 14] [] tyOK (l1 := [(2, pV 2), (3, pV 3), (4, pV 4), (37, bV false)]) (by kernel_rfl) ?_
            refine ao_nil ?_
            show mk 46 [(2, pV 2), (3, pV 3), (4, pV 4), (37, bV false)] [(2, [.bx [sC j1, sC p0.hi]]), (3, [.bx [sC p1.lo, sC p1.hi]]), (4, [.bx [sC ((⟨#[]⟩ : ByteArray)), sC ((⟨#[]⟩ : ByteArray))]])] = mk 46 [(2, pV 2), (3, pV 3), (4, pV 4), (37, bV (bif ((p0.hi.toList == ((⟨#[]⟩ : ByteArray)).toList)) then true else (bif (!(p1.hi.toList == ((⟨#[]⟩ : ByteArray)).toList)) then (Op.bytesLess p1.hi.toList p0.hi.toList) else false)))] [(2, [.bx [sC j1, sC p0.hi]]), (3, [.bx [sC p1.lo, sC p1.hi]]), (4, [.bx [sC ((⟨#[]⟩ : ByteArray)), sC ((⟨#[]⟩ : ByteArray))]])]
            first | rfl | (simp only [h3, h4, cond_true, cond_false]) | (simp only [h3, h4, cond_true, cond_false]; rfl)
      obtain ⟨y2, h, ky2⟩ := bndJ_e h
      refine a_joinT (ι := ByteArray) (fun j => mk 46 [(2, pV 2), (4, pV 4)] [(2, [.bx [sC j1, sC j]]), (4, [.bx [sC ((⟨#[]⟩ : ByteArray)), sC ((⟨#[]⟩ : ByteArray))]])]) (fun j => y2 = j) ?_ ?_
      · refine a_cond (b := bif ((p0.hi.toList == ((⟨#[]⟩ : ByteArray)).toList)) then true else (bif (!(p1.hi.toList == ((⟨#[]⟩ : ByteArray)).toList)) then (Op.bytesLess p1.hi.toList p0.hi.toList) else false)) (by kernel_rfl) (fun h3 => ?_) (fun h3 => ?_)
        · replace h := cT h3 h
          refine a_run [2, 4] tyOK (st1 := mk 46 [(2, pV 2), (4, pV 4)] [(2, [.bx [sC j1, sC p1.hi]]), (4, [.bx [sC ((⟨#[]⟩ : ByteArray)), sC ((⟨#[]⟩ : ByteArray))]])]) (by kernel_rfl) ?_
          obtain rfl := Option.some.inj h
          show ∃ _, _ ∧ Imp _ _ _
          refine ⟨_, rfl, ?_⟩
          exact imp_keepTo [2, 4] (by kernel_rfl) (imp_done rfl)
        · replace h := cF h3 h
          refine a_skip ?_
          obtain rfl := Option.some.inj h
          show ∃ _, _ ∧ Imp _ _ _
          refine ⟨_, rfl, ?_⟩
          exact imp_keepTo [2, 4] (by kernel_rfl) (imp_done rfl)
      intro j2 hj2
      replace h := ky2 _ hj2
      refine a_seq ?_
      refine a_seq ?_
      refine a_ops [0, 1, 2] (by kernel_rfl) ?_
      refine ao_some [0] [1, 2] [2, 4, 41] tyOK (st1 := mk 46 [(2, pV 2), (4, pV 4), (41, .agg [.c (sC j1), .c (sC j2)])] [(2, [.bx [sC j1, sC j2]]), (4, [.bx [sC ((⟨#[]⟩ : ByteArray)), sC ((⟨#[]⟩ : ByteArray))]])]) (by kernel_rfl) ?_
      refine ao_enterM (f := 86) (d := 42) (A := [.agg [.c (sC j1), .c (sC j2)]]) (l1 := [(2, pV 2), (4, pV 4), (42, bV (s_RangeOk ((⟨j1, j2⟩ : Range))))]) (k_s_RangeOk ((⟨j1, j2⟩ : Range)) _ rfl) Try.call86 (by kernel_rfl) (by kernel_rfl) (by kernel_rfl) ?_
      refine ao_someM [2] [] tyOK (l1 := [(2, pV 2), (4, pV 4), (43, bV (!(s_RangeOk ((⟨j1, j2⟩ : Range)))))]) (by kernel_rfl) ?_
      refine ao_nil ?_
      refine a_cond (b := !(s_RangeOk ((⟨j1, j2⟩ : Range)))) (by kernel_rfl) (fun h4 => ?_) (fun h4 => ?_)
      · replace h := cT h4 h
        refine a_seq ?_
        refine a_run [4, 5] tyOK (st1 := mk 46 [(4, pV 4), (5, bV false)] [(4, [.bx [sC ((⟨#[]⟩ : ByteArray)), sC ((⟨#[]⟩ : ByteArray))]])]) (by kernel_rfl) ?_
        refine a_ret ?_
        obtain rfl := Option.some.inj h
        exact end_eq (res' := .tup [.agg [.c (sC ((⟨#[]⟩ : ByteArray))), .c (sC ((⟨#[]⟩ : ByteArray)))], .one (.c (bC false))]) (by kernel_rfl) (by first | rfl | simp)
      · replace h := cF h4 h
        refine a_skip ?_
        refine a_seq ?_
        refine a_run [4, 5] tyOK (st1 := mk 46 [(4, pV 4), (5, bV true)] [(4, [.bx [sC j1, sC j2]])]) (by kernel_rfl) ?_
        refine a_ret ?_
        obtain rfl := Option.some.inj h
        exact end_eq (res' := .tup [.agg [.c (sC j1), .c (sC j2)], .one (.c (bC true))]) (by kernel_rfl) (by first | rfl | simp)

noncomputable def s_l07Clash (p0 : Lock) (p1 : Lock) : Option (Bool) :=
 bnd (s_RangeBoth p0.range p1.range) fun r1 =>
 some (bif (!((p0.tx.c == p1.tx.c) && ((p0.tx.e == p1.tx.e) && ((p0.tx.n == p1.tx.n) && true)))) then (bif r1.2 then (bif p0.ex then true else p1.ex) else false) else false)
set_option maxHeartbeats 4000000 in
/-- spec.l07Clash -/
theorem k_s_l07Clash (p0 : Lock) (p1 : Lock) (v : Bool) (h : s_l07Clash p0 p1 = some v) : CallOK Try.prog 104 [.agg [.c (iC p0.tx.c), .c (iC p0.tx.e), .c (iC p0.tx.n), .c (sC p0.range.lo), .c (sC p0.range.hi), .c (bC p0.ex)], .agg [.c (iC p1.tx.c), .c (iC p1.tx.e), .c (iC p1.tx.n), .c (sC p1.range.lo), .c (sC p1.range.hi), .c (bC p1.ex)]] (bV v) [] :=
  callOK tyOK Try.func104 rfl fun w S hS => by
    unfold s_l07Clash at h
    refine a_seq ?_
    refine a_run [2, 3] tyOK (st1 := mk 31 [(2, pV 2), (3, pV 3)] [(2, [.bx [iC p0.tx.c, iC p0.tx.e, iC p0.tx.n, sC p0.range.lo, sC p0.range.hi, bC p0.ex]]), (3, [.bx [iC p1.tx.c, iC p1.tx.e, iC p1.tx.n, sC p1.range.lo, sC p1.range.hi, bC p1.ex]])]) (by kernel_rfl) ?_
    refine a_seq ?_
    refine a_ops [0, 1, 2, 3, 4, 5, 6, 7, 8, 9, 10] (by kernel_rfl) ?_
    refine ao_someM [0, 1, 2, 3] [4, 5, 6, 7, 8, 9, 10] tyOK (l1 := [(2, pV 2), (3, pV 3), (9, .agg [.c (sC p0.range.lo), .c (sC p0.range.hi)]), (11, .agg [.c (sC p1.range.lo), .c (sC p1.range.hi)])]) (by kernel_rfl) ?_
    obtain ⟨r1, er1, h⟩ := bnd_e h
    refine ao_enterM (f := 130) (d := 12) (A := [.agg [.c (sC p0.range.lo), .c (sC p0.range.hi)], .agg [.c (sC p1.range.lo), .c (sC p1.range.hi)]]) (l1 := [(2, pV 2), (3, pV 3), (12, .tup [.agg [.c (sC r1.1.lo), .c (sC r1.1.hi)], .one (.c (bC r1.2))])]) (k_s_RangeBoth p0.range p1.range r1 er1) Try.call130 (by kernel_rfl) (by kernel_rfl) (by kernel_rfl) ?_
    refine ao_someM [5, 6, 7, 8, 9, 10] [] tyOK (l1 := [(2, pV 2), (3, pV 3), (6, bV r1.2)]) (by kernel_rfl) ?_
    refine ao_nil ?_
    refine a_seq ?_
    refine a_mid (mk 31 [(4, bV (bif (!((p0.tx.c == p1.tx.c) && ((p0.tx.e == p1.tx.e) && ((p0.tx.n == p1.tx.n) && true)))) then (bif r1.2 then (bif p0.ex then true else p1.ex) else false) else false))] []) ?_ ?_
    · refine a_ops [0, 1, 2, 3, 4, 5, 6, 7, 8, 9, 10, 11, 12, 13, 14, 15, 16] (by kernel_rfl) ?_
      refine ao_someM [0, 1, 2, 3, 4, 5] [6, 7, 8, 9, 10, 11, 12, 13, 14, 15, 16] tyOK (l1 := [(2, pV 2), (3, pV 3), (6, bV r1.2), (20, bV (!((p0.tx.c == p1.tx.c) && ((p0.tx.e == p1.tx.e) && ((p0.tx.n == p1.tx.n) && true)))))]) (by kernel_rfl) ?_
      rcases Bool.eq_false_or_eq_true (!((p0.tx.c == p1.tx.c) && ((p0.tx.e == p1.tx.e) && ((p0.tx.n == p1.tx.n) && true)))) with h1 | h1
      · refine ao_saysM (k := 20) (t := bV (!((p0.tx.c == p1.tx.c) && ((p0.tx.e == p1.tx.e) && ((p0.tx.n == p1.tx.n) && true))))) (t' := bV true) (l1 := [(2, pV 2), (3, pV 3), (6, bV r1.2), (20, bV true)]) (by kernel_rfl) (by rw [h1]) (by kernel_rfl) ?_
        refine ao_someM [6, 7, 8] [9, 10, 11, 12, 13, 14, 15, 16] tyOK (l1 := [(2, pV 2), (3, pV 3), (23, bV r1.2)]) (by kernel_rfl) ?_
        rcases Bool.eq_false_or_eq_true (r1.2) with h2 | h2
        · refine ao_saysM (k := 23) (t := bV r1.2) (t' := bV true) (l1 := [(2, pV 2), (3, pV 3), (23, bV true)]) (by kernel_rfl) (by rw [h2]) (by kernel_rfl) ?_
          refine ao_some [9, 10, 11] [12, 13, 14, 15, 16] [3, 23, 26] tyOK (st1 := mk 31 [(3, pV 3), (23, bV true), (26, bV p0.ex)] [(3, [.bx [iC p1.tx.c, iC p1.tx.e, iC p1.tx.n, sC p1.range.lo, sC p1.range.hi, bC p1.ex]])]) (by kernel_rfl) ?_
          rcases Bool.eq_false_or_eq_true (p0.ex) with h3 | h3
          · refine ao_saysM (k := 26) (t := bV p0.ex) (t' := bV true) (l1 := [(3, pV 3), (23, bV true), (26, bV true)]) (by kernel_rfl) (by rw [h3]) (by kernel_rfl) ?_
            refine ao_some [12, 13, 14, 15, 16] [] [4] tyOK (st1 := mk 31 [(4, bV true)] []) (by kernel_rfl) ?_
            refine ao_nil ?_
            show mk 31 [(4, bV true)] [] = mk 31 [(4, bV (bif (!((p0.tx.c == p1.tx.c) && ((p0.tx.e == p1.tx.e) && ((p0.tx.n == p1.tx.n) && true)))) then (bif r1.2 then (bif p0.ex then true else p1.ex) else false) else false))] []
            first | rfl | (simp only [h1, h2, h3, cond_true, cond_false]) | (simp only [h1, h2, h3, cond_true, cond_false]; rfl)
          · refine ao_saysM (k := 26) (t := bV p0.ex) (t' := bV false) (l1 := [(3, pV 3), (23, bV true), (26, bV false)]) (by kernel_rfl) (by rw [h3]) (by kernel_rfl) ?_
            refine ao_some [12, 13, 14, 15, 16] [] [4] tyOK (st1 := mk 31 [(4, bV p1.ex)] []) (by kernel_rfl) ?_
            refine ao_nil ?_
            show mk 31 [(4, bV p1.ex)] [] = mk 31 [(4, bV (bif (!((p0.tx.c == p1.tx.c) && ((p0.tx.e == p1.tx.e) && ((p0.tx.n == p1.tx.n) && true)))) then (bif r1.2 then (bif p0.ex then true else p1.ex) else false) else false))] []
            first | rfl | (simp only [h1, h2, h3, cond_true, cond_false]) | (simp only [h1, h2, h3, cond_true, cond_false]; rfl)
        · refine ao_saysM (k := 23) (t := bV r1.2) (t' := bV false) (l1 := [(2, pV 2), (3, pV 3), (23, bV false)]) (by kernel_rfl) (by rw [h2]) (by kernel_rfl) ?_
          refine ao_some [9, 10, 11, 12, 13, 14, 15, 16] [] [4] tyOK (st1 := mk 31 [(4, bV false)] []) (by kernel_rfl) ?_
          refine ao_nil ?_
          show mk 31 [(4, bV false)] [] = mk 31 [(4, bV (bif (!((p0.tx.c == p1.tx.c) && ((p0.tx.e == p1.tx.e) && ((p0.tx.n == p1.tx.n) && true)))) then (bif r1.2 then (bif p0.ex then true else p1.ex) else false) else false))] []
          first | rfl | (simp only [h1, h2, cond_true, cond_false]) | (simp only [h1, h2, cond_true, cond_false]; rfl)
      · refine ao_saysM (k := 20) (t := bV (!((p0.tx.c == p1.tx.c) && ((p0.tx.e == p1.tx.e) && ((p0.tx.n == p1.tx.n) && true))))) (t' := bV false) (l1 := [(2, pV 2), (3, pV 3), (6, bV r1.2), (20, bV false)]) (by kernel_rfl) (by rw [h1]) (by kernel_rfl) ?_
        refine ao_some [6, 7, 8, 9, 10, 11, 12, 13, 14, 15, 16] [] [4] tyOK (st1 := mk 31 [(4, bV false)] []) (by kernel_rfl) ?_
        refine ao_nil ?_
        show mk 31 [(4, bV false)] [] = mk 31 [(4, bV (bif (!((p0.tx.c == p1.tx.c) && ((p0.tx.e == p1.tx.e) && ((p0.tx.n == p1.tx.n) && true)))) then (bif r1.2 then (bif p0.ex then true else p1.ex) else false) else false))] []
        first | rfl | (simp only [h1, cond_true, cond_false]) | (simp only [h1, cond_true, cond_false]; rfl)
    refine a_ret ?_
    obtain rfl := Option.some.inj h
    exact end_eq (res' := bV (bif (!((p0.tx.c == p1.tx.c) && ((p0.tx.e == p1.tx.e) && ((p0.tx.n == p1.tx.n) && true)))) then (bif r1.2 then (bif p0.ex then true else p1.ex) else false) else false)) (by kernel_rfl) (by first | rfl | simp)

noncomputable def Bs_l07Any_1 (p0 : (List Lock)) (p1 : Lock) (s1 : Int) : Option (Int ⊕ (Unit ⊕ (Bool))) :=
 bif (decide (s1 < (((((p0).map eLock).length : Nat) : Int)))) then
 (bnd (getI p0 s1) fun x1 =>
 bnd (s_l07Clash p1 x1) fun r1 =>
 bif r1 then
 (some (.inr (.inr true)))
 else
 (some (.inl (IntKind.wrap .i64 (s1 + 1)))))
 else
 (some (.inr (.inl (()))))

noncomputable def s_l07Any (p0 : (List Lock)) (p1 : Lock) : Option (Bool) :=
 bndS (loopT (Bs_l07Any_1 p0 p1) 0) fun j1 =>
 some false
set_option maxHeartbeats 4000000 in
/-- spec.l07Any -/
theorem k_s_l07Any (p0 : (List Lock)) (p1 : Lock) (v : Bool) (h : s_l07Any p0 p1 = some v) : CallOK Try.prog 65 [lV 6 eLock p0, .agg [.c (iC p1.tx.c), .c (iC p1.tx.e), .c (iC p1.tx.n), .c (sC p1.range.lo), .c (sC p1.range.hi), .c (bC p1.ex)]] (bV v) [] :=
  callOK tyOK Try.func65 rfl fun w S hS => by
    unfold s_l07Any at h
    refine a_seq ?_
    refine a_run [0, 3] tyOK (st1 := mk 17 [(0, lV 6 eLock p0), (3, pV 3)] [(3, [.bx [iC p1.tx.c, iC p1.tx.e, iC p1.tx.n, sC p1.range.lo, sC p1.range.hi, bC p1.ex]])]) (by kernel_rfl) ?_
    refine a_seq ?_
    refine a_seq ?_
    refine a_runM tyOK (l1 := [(3, pV 3), (7, lV 6 eLock p0), (8, iV (((((p0).map eLock).length : Nat) : Int))), (9, iV 0)]) (by kernel_rfl) ?_
    obtain ⟨y1, h, ky1, zy1⟩ := bndS_e h
    refine a_joinT (ι := Unit) (fun j => mk 17 [] []) (fun j => y1 = .inl j) ?_ ?_
    · refine a_block ?_
      refine a_loopT (Bs_l07Any_1 p0 p1) (fun s1 => mk 17 [(3, pV 3), (7, lV 6 eLock p0), (8, iV (((((p0).map eLock).length : Nat) : Int))), (9, iV s1)] [(3, [.bx [iC p1.tx.c, iC p1.tx.e, iC p1.tx.n, sC p1.range.lo, sC p1.range.hi, bC p1.ex]])]) 0 h ?_ ?_
      · exact imp_keepTo [3, 7, 8, 9] (by kernel_rfl) (imp_done rfl)
      intro s1 y2 h zy2
      unfold Bs_l07Any_1 at h
      refine a_seq ?_
      refine a_run [3, 7, 8, 9, 10] tyOK (st1 := mk 17 [(3, pV 3), (7, lV 6 eLock p0), (8, iV (((((p0).map eLock).length : Nat) : Int))), (9, iV s1), (10, bV (decide (s1 < (((((p0).map eLock).length : Nat) : Int)))))] [(3, [.bx [iC p1.tx.c, iC p1.tx.e, iC p1.tx.n, sC p1.range.lo, sC p1.range.hi, bC p1.ex]])]) (by kernel_rfl) ?_
      refine a_seq ?_
      refine a_cond (b := decide (s1 < (((((p0).map eLock).length : Nat) : Int)))) (by kernel_rfl) (fun h1 => ?_) (fun h1 => ?_)
      · replace h := cT h1 h
        refine a_skip ?_
        refine a_seq ?_
        refine a_block ?_
        refine a_seq ?_
        refine a_ops [0, 1, 2, 3] (by kernel_rfl) ?_
        obtain ⟨x1, ex1, h⟩ := bnd_e h
        refine ao_index (d := 11) (size := 6) (n := s1) (rows := (p0).map eLock) (st1 := mk 17 [(3, pV 3), (7, lV 6 eLock p0), (8, iV (((((p0).map eLock).length : Nat) : Int))), (9, iV s1), (11, .one (.fp [iC x1.tx.c, iC x1.tx.e, iC x1.tx.n, sC x1.range.lo, sC x1.range.hi, bC x1.ex] 0))] [(3, [.bx [iC p1.tx.c, iC p1.tx.e, iC p1.tx.n, sC p1.range.lo, sC p1.range.hi, bC p1.ex]])]) (eLock x1) [3, 7, 8, 9, 11] tyOK (by kernel_rfl) (getI_e ex1).1 (show ((p0).map eLock)[_]? = some _ from by rw [List.getElem?_map, (getI_e ex1).2]; rfl) (by kernel_rfl) (by kernel_rfl) ?_
        refine ao_some [1, 2, 3] [] [3, 6, 7, 8, 9] tyOK (st1 := mk 17 [(3, pV 3), (6, pV 6), (7, lV 6 eLock p0), (8, iV (((((p0).map eLock).length : Nat) : Int))), (9, iV s1)] [(3, [.bx [iC p1.tx.c, iC p1.tx.e, iC p1.tx.n, sC p1.range.lo, sC p1.range.hi, bC p1.ex]]), (6, [.bx [iC x1.tx.c, iC x1.tx.e, iC x1.tx.n, sC x1.range.lo, sC x1.range.hi, bC x1.ex]])]) (by kernel_rfl) ?_
        refine ao_nil ?_
        refine a_seq ?_
        refine a_ops [0, 1, 2] (by kernel_rfl) ?_
        refine ao_some [0, 1] [2] [3, 7, 8, 9, 13, 14] tyOK (st1 := mk 17 [(3, pV 3), (7, lV 6 eLock p0), (8, iV (((((p0).map eLock).length : Nat) : Int))), (9, iV s1), (13, .agg [.c (iC p1.tx.c), .c (iC p1.tx.e), .c (iC p1.tx.n), .c (sC p1.range.lo), .c (sC p1.range.hi), .c (bC p1.ex)]), (14, .agg [.c (iC x1.tx.c), .c (iC x1.tx.e), .c (iC x1.tx.n), .c (sC x1.range.lo), .c (sC x1.range.hi), .c (bC x1.ex)])] [(3, [.bx [iC p1.tx.c, iC p1.tx.e, iC p1.tx.n, sC p1.range.lo, sC p1.range.hi, bC p1.ex]])]) (by kernel_rfl) ?_
        obtain ⟨r1, er1, h⟩ := bnd_e h
        refine ao_enterM (f := 104) (d := 15) (A := [.agg [.c (iC p1.tx.c), .c (iC p1.tx.e), .c (iC p1.tx.n), .c (sC p1.range.lo), .c (sC p1.range.hi), .c (bC p1.ex)], .agg [.c (iC x1.tx.c), .c (iC x1.tx.e), .c (iC x1.tx.n), .c (sC x1.range.lo), .c (sC x1.range.hi), .c (bC x1.ex)]]) (l1 := [(3, pV 3), (7, lV 6 eLock p0), (8, iV (((((p0).map eLock).length : Nat) : Int))), (9, iV s1), (15, bV r1)]) (k_s_l07Clash p1 x1 r1 er1) Try.call104 (by kernel_rfl) (by kernel_rfl) (by kernel_rfl) ?_
        refine ao_nil ?_
        refine a_cond (b := r1) (by kernel_rfl) (fun h2 => ?_) (fun h2 => ?_)
        · replace h := cT h2 h
          refine a_seq ?_
          refine a_run [4] tyOK (st1 := mk 17 [(4, bV true)] []) (by kernel_rfl) ?_
          refine a_ret ?_
          obtain rfl := Option.some.inj h
          obtain rfl := zy2 _ rfl
          obtain rfl := zy1 _ rfl
          exact end_eq (res' := bV true) (by kernel_rfl) (by first | rfl | simp)
        · replace h := cF h2 h
          refine a_skip ?_
          refine a_runM tyOK (l1 := [(3, pV 3), (7, lV 6 eLock p0), (8, iV (((((p0).map eLock).length : Nat) : Int))), (9, iV (IntKind.wrap .i64 (s1 + 1)))]) (by kernel_rfl) ?_
          obtain rfl := Option.some.inj h
          show ∃ _, _ ∧ Imp _ _ _
          refine ⟨_, rfl, ?_⟩
          exact imp_keepTo [3, 7, 8, 9] (by kernel_rfl) (imp_done rfl)
      · replace h := cF h1 h
        refine a_exit ?_
        obtain rfl := Option.some.inj h
        obtain rfl := zy2 _ rfl
        show ∃ _, _ ∧ Imp _ _ _
        refine ⟨_, rfl, ?_⟩
        exact imp_keepTo [] (by kernel_rfl) (imp_done rfl)
    intro j1 hj1
    replace h := ky1 _ hj1
    refine a_seq ?_
    refine a_run [4] tyOK (st1 := mk 17 [(4, bV false)] []) (by kernel_rfl) ?_
    refine a_ret ?_
    obtain rfl := Option.some.inj h
    exact end_eq (res' := bV false) (by kernel_rfl) (by first | rfl | simp)


end Go.Proofs.Ytagoajkiccgmjaa
namespace Go.Proofs.Ytagoajkiccgmjaa
open Go.Mv Go.RowKit
noncomputable def Bs_l07Waits_1 (p0 : Locks) (p1 : Tx) (s1 : Int) : Option (Int ⊕ (Unit ⊕ (Bool))) :=
 bif (decide (s1 < (((((p0.wait).map eLock).length : Nat) : Int)))) then
 (bnd (getI p0.wait s1) fun x1 =>
 bif (((x1.tx.c == p1.c) && ((x1.tx.e == p1.e) && ((x1.tx.n == p1.n) && true)))) then
 (some (.inr (.inr true)))
 else
 (some (.inl (IntKind.wrap .i64 (s1 + 1)))))
 else
 (some (.inr (.inl (()))))

noncomputable def s_l07Waits (p0 : Locks) (p1 : Tx) : Option (Bool) :=
 bndS (loopT (Bs_l07Waits_1 p0 p1) 0) fun j1 =>
 some false
set_option maxHeartbeats 4000000 in
/-- spec.l07Waits -/
theorem k_s_l07Waits (p0 : Locks) (p1 : Tx) (v : Bool) (h : s_l07Waits p0 p1 = some v) : CallOK Try.prog 63 [.agg [.c (lC 6 eLock p0.held), .c (lC 6 eLock p0.wait)], .agg [.c (iC p1.c), .c (iC p1.e), .c (iC p1.n)]] (bV v) [] :=
  callOK tyOK Try.func63 rfl fun w S hS => by
    unfold s_l07Waits at h
    refine a_seq ?_
    refine a_run [2, 3] tyOK (st1 := mk 19 [(2, pV 2), (3, pV 3)] [(2, [.bx [.fz (lC 6 eLock p0.held), .fz (lC 6 eLock p0.wait)]]), (3, [.bx [iC p1.c, iC p1.e, iC p1.n]])]) (by kernel_rfl) ?_
    refine a_seq ?_
    refine a_seq ?_
    refine a_run [3, 8, 9, 10] tyOK (st1 := mk 19 [(3, pV 3), (8, lV 6 eLock p0.wait), (9, iV (((((p0.wait).map eLock).length : Nat) : Int))), (10, iV 0)] [(3, [.bx [iC p1.c, iC p1.e, iC p1.n]])]) (by kernel_rfl) ?_
    obtain ⟨y1, h, ky1, zy1⟩ := bndS_e h
    refine a_joinT (ι := Unit) (fun j => mk 19 [] []) (fun j => y1 = .inl j) ?_ ?_
    · refine a_block ?_
      refine a_loopT (Bs_l07Waits_1 p0 p1) (fun s1 => mk 19 [(3, pV 3), (8, lV 6 eLock p0.wait), (9, iV (((((p0.wait).map eLock).length : Nat) : Int))), (10, iV s1)] [(3, [.bx [iC p1.c, iC p1.e, iC p1.n]])]) 0 h ?_ ?_
      · exact imp_keepTo [3, 8, 9, 10] (by kernel_rfl) (imp_done rfl)
      intro s1 y2 h zy2
      unfold Bs_l07Waits_1 at h
      refine a_seq ?_
      refine a_run [3, 8, 9, 10, 11] tyOK (st1 := mk 19 [(3, pV 3), (8, lV 6 eLock p0.wait), (9, iV (((((p0.wait).map eLock).length : Nat) : Int))), (10, iV s1), (11, bV (decide (s1 < (((((p0.wait).map eLock).length : Nat) : Int)))))] [(3, [.bx [iC p1.c, iC p1.e, iC p1.n]])]) (by kernel_rfl) ?_
      refine a_seq ?_
      refine a_cond (b := decide (s1 < (((((p0.wait).map eLock).length : Nat) : Int)))) (by kernel_rfl) (fun h1 => ?_) (fun h1 => ?_)
      · replace h := cT h1 h
        refine a_skip ?_
        refine a_seq ?_
        refine a_block ?_
        refine a_seq ?_
        refine a_ops [0, 1, 2, 3] (by kernel_rfl) ?_
        obtain ⟨x1, ex1, h⟩ := bnd_e h
        refine ao_index (d := 12) (size := 6) (n := s1) (rows := (p0.wait).map eLock) (st1 := mk 19 [(3, pV 3), (8, lV 6 eLock p0.wait), (9, iV (((((p0.wait).map eLock).length : Nat) : Int))), (10, iV s1), (12, .one (.fp [iC x1.tx.c, iC x1.tx.e, iC x1.tx.n, sC x1.range.lo, sC x1.range.hi, bC x1.ex] 0))] [(3, [.bx [iC p1.c, iC p1.e, iC p1.n]])]) (eLock x1) [3, 8, 9, 10, 12] tyOK (by kernel_rfl) (getI_e ex1).1 (show ((p0.wait).map eLock)[_]? = some _ from by rw [List.getElem?_map, (getI_e ex1).2]; rfl) (by kernel_rfl) (by kernel_rfl) ?_
        refine ao_some [1, 2, 3] [] [3, 6, 8, 9, 10] tyOK (st1 := mk 19 [(3, pV 3), (6, pV 6), (8, lV 6 eLock p0.wait), (9, iV (((((p0.wait).map eLock).length : Nat) : Int))), (10, iV s1)] [(3, [.bx [iC p1.c, iC p1.e, iC p1.n]]), (6, [.bx [iC x1.tx.c, iC x1.tx.e, iC x1.tx.n, sC x1.range.lo, sC x1.range.hi, bC x1.ex]])]) (by kernel_rfl) ?_
        refine ao_nil ?_
        refine a_seq ?_
        refine a_run [3, 8, 9, 10, 17] tyOK (st1 := mk 19 [(3, pV 3), (8, lV 6 eLock p0.wait), (9, iV (((((p0.wait).map eLock).length : Nat) : Int))), (10, iV s1), (17, bV (((x1.tx.c == p1.c) && ((x1.tx.e == p1.e) && ((x1.tx.n == p1.n) && true)))))] [(3, [.bx [iC p1.c, iC p1.e, iC p1.n]])]) (by kernel_rfl) ?_
        refine a_cond (b := ((x1.tx.c == p1.c) && ((x1.tx.e == p1.e) && ((x1.tx.n == p1.n) && true)))) (by kernel_rfl) (fun h2 => ?_) (fun h2 => ?_)
        · replace h := cT h2 h
          refine a_seq ?_
          refine a_run [4] tyOK (st1 := mk 19 [(4, bV true)] []) (by kernel_rfl) ?_
          refine a_ret ?_
          obtain rfl := Option.some.inj h
          obtain rfl := zy2 _ rfl
          obtain rfl := zy1 _ rfl
          exact end_eq (res' := bV true) (by kernel_rfl) (by first | rfl | simp)
        · replace h := cF h2 h
          refine a_skip ?_
          refine a_runM tyOK (l1 := [(3, pV 3), (8, lV 6 eLock p0.wait), (9, iV (((((p0.wait).map eLock).length : Nat) : Int))), (10, iV (IntKind.wrap .i64 (s1 + 1)))]) (by kernel_rfl) ?_
          obtain rfl := Option.some.inj h
          show ∃ _, _ ∧ Imp _ _ _
          refine ⟨_, rfl, ?_⟩
          exact imp_keepTo [3, 8, 9, 10] (by kernel_rfl) (imp_done rfl)
      · replace h := cF h1 h
        refine a_exit ?_
        obtain rfl := Option.some.inj h
        obtain rfl := zy2 _ rfl
        show ∃ _, _ ∧ Imp _ _ _
        refine ⟨_, rfl, ?_⟩
        exact imp_keepTo [] (by kernel_rfl) (imp_done rfl)
    intro j1 hj1
    replace h := ky1 _ hj1
    refine a_seq ?_
    refine a_run [4] tyOK (st1 := mk 19 [(4, bV false)] []) (by kernel_rfl) ?_
    refine a_ret ?_
    obtain rfl := Option.some.inj h
    exact end_eq (res' := bV false) (by kernel_rfl) (by first | rfl | simp)


end Go.Proofs.Ytagoajkiccgmjaa
namespace Go.Proofs.Ytagoajkiccgmjaa
open Go.Mv Go.RowKit
noncomputable def Bs_LocksOk_1 (p0 : Locks) (s1 : Int) : Option (Int ⊕ (Unit ⊕ (Bool))) :=
 bif (decide (s1 < (((((p0.held).map eLock).length : Nat) : Int)))) then
 (bnd (getI p0.held s1) fun x1 =>
 bnd (bif (!(s_l07LockOk x1)) then
 (some true)
 else
 (chk (0 ≤ (0 : Int) ∧ (0 : Int) ≤ s1 ∧ s1 ≤ ((p0.held).length : Int)) <|
 bnd (s_l07Any (p0.held.take ((s1).toNat)) x1) fun r1 =>
 some r1)) fun j1 =>
 bif j1 then
 (some (.inr (.inr false)))
 else
 (some (.inl (IntKind.wrap .i64 (s1 + 1)))))
 else
 (some (.inr (.inl (()))))

noncomputable def Bs_LocksOk_2 (p0 : Locks) (s2 : Int) : Option (Int ⊕ (Unit ⊕ (Bool))) :=
 bif (decide (s2 < (((((p0.wait).map eLock).length : Nat) : Int)))) then
 (bnd (getI p0.wait s2) fun x2 =>
 bnd (bif (!(s_l07LockOk x2)) then
 (some true)
 else
 (chk (0 ≤ (0 : Int) ∧ (0 : Int) ≤ s2 ∧ s2 ≤ ((p0.wait).length : Int)) <|
 bnd (s_l07Waits ((⟨[], p0.wait.take ((s2).toNat)⟩ : Locks)) x2.tx) fun r2 =>
 bif r2 then
 (some true)
 else
 (bnd (s_l07Any p0.held x2) fun r3 =>
 bif (!r3) then
 (chk (0 ≤ (0 : Int) ∧ (0 : Int) ≤ s2 ∧ s2 ≤ ((p0.wait).length : Int)) <|
 bnd (s_l07Any (p0.wait.take ((s2).toNat)) x2) fun r4 =>
 some (!r4))
 else
 (some false)))) fun j3 =>
 bif j3 then
 (some (.inr (.inr false)))
 else
 (some (.inl (IntKind.wrap .i64 (s2 + 1)))))
 else
 (some (.inr (.inl (()))))

noncomputable def s_LocksOk (p0 : Locks) : Option (Bool) :=
 bif (decide ((IntKind.wrap .i64 ((((((p0.held).map eLock).length : Nat) : Int)) + (((((p0.wait).map eLock).length : Nat) : Int)))) > 60)) then
 (some false)
 else
 (bndS (loopT (Bs_LocksOk_1 p0) 0) fun j2 =>
 bndS (loopT (Bs_LocksOk_2 p0) 0) fun j4 =>
 some true)
set_option maxHeartbeats 4000000 in
/-- spec.LocksOk -/
theorem k_s_LocksOk (p0 : Locks) (v : Bool) (h : s_LocksOk p0 = some v) : CallOK Try.prog 61 [.agg [.c (lC 6 eLock p0.held), .c (lC 6 eLock p0.wait)]] (bV v) [] :=
  callOK tyOK Try.func61 rfl fun w S hS => by
    unfold s_LocksOk at h
    refine a_seq ?_
    refine a_run [1] tyOK (st1 := mk 73 [(1, pV 1)] [(1, [.bx [.fz (lC 6 eLock p0.held), .fz (lC 6 eLock p0.wait)]])]) (by as_aux_lemma => kernel_rfl) ?_
    refine a_seq ?_
    refine a_seq ?_
    refine a_runM tyOK (l1 := [(1, pV 1), (14, bV (decide ((IntKind.wrap .i64 ((((((p0.held).map eLock).length : Nat) : Int)) + (((((p0.wait).map eLock).length : Nat) : Int)))) > 60)))]) (by as_aux_lemma => kernel_rfl) ?_
    refine a_cond (b := decide ((IntKind.wrap .i64 ((((((p0.held).map eLock).length : Nat) : Int)) + (((((p0.wait).map eLock).length : Nat) : Int)))) > 60)) (by as_aux_lemma => kernel_rfl) (fun h1 => ?_) (fun h1 => ?_)
    · replace h := cT h1 h
      refine a_seq ?_
      refine a_run [2] tyOK (st1 := mk 73 [(2, bV false)] []) (by as_aux_lemma => kernel_rfl) ?_
      refine a_ret ?_
      obtain rfl := Option.some.inj h
      exact end_eq (res' := bV false) (by as_aux_lemma => kernel_rfl) (by first | rfl | simp)
    · replace h := cF h1 h
      refine a_skip ?_
      refine a_seq ?_
      refine a_seq ?_
      refine a_runM tyOK (l1 := [(1, pV 1), (16, lV 6 eLock p0.held), (17, iV (((((p0.held).map eLock).length : Nat) : Int))), (18, iV 0)]) (by as_aux_lemma => kernel_rfl) ?_
      obtain ⟨y1, h, ky1, zy1⟩ := bndS_e h
      refine a_joinT (ι := Unit) (fun j => mk 73 [(1, pV 1)] [(1, [.bx [.fz (lC 6 eLock p0.held), .fz (lC 6 eLock p0.wait)]])]) (fun j => y1 = .inl j) ?_ ?_
      · refine a_block ?_
        refine a_loopT (Bs_LocksOk_1 p0) (fun s1 => mk 73 [(1, pV 1), (16, lV 6 eLock p0.held), (17, iV (((((p0.held).map eLock).length : Nat) : Int))), (18, iV s1)] [(1, [.bx [.fz (lC 6 eLock p0.held), .fz (lC 6 eLock p0.wait)]])]) 0 h ?_ ?_
        · exact imp_keepTo [1, 16, 17, 18] (by as_aux_lemma => kernel_rfl) (imp_done rfl)
        intro s1 y2 h zy2
        unfold Bs_LocksOk_1 at h
        refine a_seq ?_
        refine a_run [1, 16, 17, 18, 19] tyOK (st1 := mk 73 [(1, pV 1), (16, lV 6 eLock p0.held), (17, iV (((((p0.held).map eLock).length : Nat) : Int))), (18, iV s1), (19, bV (decide (s1 < (((((p0.held).map eLock).length : Nat) : Int)))))] [(1, [.bx [.fz (lC 6 eLock p0.held), .fz (lC 6 eLock p0.wait)]])]) (by as_aux_lemma => kernel_rfl) ?_
        refine a_seq ?_
        refine a_cond (b := decide (s1 < (((((p0.held).map eLock).length : Nat) : Int)))) (by as_aux_lemma => kernel_rfl) (fun h2 => ?_) (fun h2 => ?_)
        · replace h := cT h2 h
          refine a_skip ?_
          refine a_seq ?_
          refine a_block ?_
          refine a_seq ?_
          refine a_ops [0, 1, 2, 3, 4, 5] (by as_aux_lemma => kernel_rfl) ?_
          refine ao_some [0] [1, 2, 3, 4, 5] [1, 16, 17, 18, 20] tyOK (st1 := mk 73 [(1, pV 1), (16, lV 6 eLock p0.held), (17, iV (((((p0.held).map eLock).length : Nat) : Int))), (18, iV s1), (20, iV s1)] [(1, [.bx [.fz (lC 6 eLock p0.held), .fz (lC 6 eLock p0.wait)]])]) (by as_aux_lemma => kernel_rfl) ?_
          obtain ⟨x1, ex1, h⟩ := bnd_e h
          refine ao_indexM (d := 21) (size := 6) (n := s1) (rows := (p0.held).map eLock) (l1 := [(1, pV 1), (16, lV 6 eLock p0.held), (17, iV (((((p0.held).map eLock).length : Nat) : Int))), (18, iV s1), (20, iV s1), (21, .one (.fp [iC x1.tx.c, iC x1.tx.e, iC x1.tx.n, sC x1.range.lo, sC x1.range.hi, bC x1.ex] 0))]) (eLock x1) tyOK (by as_aux_lemma => kernel_rfl) (getI_e ex1).1 (show ((p0.held).map eLock)[_]? = some _ from by rw [List.getElem?_map, (getI_e ex1).2]; rfl) (by as_aux_lemma => kernel_rfl) (by as_aux_lemma => kernel_rfl) ?_
          refine ao_some [2, 3, 4, 5] [] [1, 3, 4, 16, 17, 18] tyOK (st1 := mk 73 [(1, pV 1), (3, iV s1), (4, pV 4), (16, lV 6 eLock p0.held), (17, iV (((((p0.held).map eLock).length : Nat) : Int))), (18, iV s1)] [(1, [.bx [.fz (lC 6 eLock p0.held), .fz (lC 6 eLock p0.wait)]]), (4, [.bx [iC x1.tx.c, iC x1.tx.e, iC x1.tx.n, sC x1.range.lo, sC x1.range.hi, bC x1.ex]])]) (by as_aux_lemma => kernel_rfl) ?_
          refine ao_nil ?_
          refine a_seq ?_
          obtain ⟨y3, h, ky3⟩ := bndJ_e h
          refine a_joinT (ι := Bool) (fun j => mk 73 [(1, pV 1), (16, lV 6 eLock p0.held), (17, iV (((((p0.held).map eLock).length : Nat) : Int))), (18, iV s1), (33, bV j)] [(1, [.bx [.fz (lC 6 eLock p0.held), .fz (lC 6 eLock p0.wait)]])]) (fun j => y3 = j) ?_ ?_
          · rcases Bool.eq_false_or_eq_true (!(s_l07LockOk x1)) with h3 | h3
            · replace h := cT h3 h
              refine a_mid (mk 73 [(1, pV 1), (16, lV 6 eLock p0.held), (17, iV (((((p0.held).map eLock).length : Nat) : Int))), (18, iV s1), (33, bV true)] [(1, [.bx [.fz (lC 6 eLock p0.held), .fz (lC 6 eLock p0.wait)]])]) ?_ ?_
              · refine a_drawn (n := 11) [] (by as_aux_lemma => kernel_rfl) (by as_aux_lemma => kernel_rfl) ?_
                refine aa_take (fuel := 10) (listed' := #[true, false, false, false, false, false, false, false, false, false, false]) (st' := mk 73 [(1, pV 1), (3, iV s1), (4, pV 4), (16, lV 6 eLock p0.held), (17, iV (((((p0.held).map eLock).length : Nat) : Int))), (18, iV s1), (23, .agg [.c (iC x1.tx.c), .c (iC x1.tx.e), .c (iC x1.tx.n), .c (sC x1.range.lo), .c (sC x1.range.hi), .c (bC x1.ex)])] [(1, [.bx [.fz (lC 6 eLock p0.held), .fz (lC 6 eLock p0.wait)]]), (4, [.bx [iC x1.tx.c, iC x1.tx.e, iC x1.tx.n, sC x1.range.lo, sC x1.range.hi, bC x1.ex]])]) [0] [1, 3, 4, 16, 17, 18, 23] tyOK (by as_aux_lemma => kernel_rfl) (by as_aux_lemma => kernel_rfl) (by as_aux_lemma => kernel_rfl) ?_
                refine aa_all [1] (by as_aux_lemma => kernel_rfl) rfl ?_
                refine aa_cons ?_ aa_nil
                refine aone_enterM (listed' := #[true, true, false, false, false, false, false, false, false, false, false]) (f := 62) (d := 24) (A := [.agg [.c (iC x1.tx.c), .c (iC x1.tx.e), .c (iC x1.tx.n), .c (sC x1.range.lo), .c (sC x1.range.hi), .c (bC x1.ex)]]) (l1 := [(1, pV 1), (3, iV s1), (4, pV 4), (16, lV 6 eLock p0.held), (17, iV (((((p0.held).map eLock).length : Nat) : Int))), (18, iV s1), (24, bV (s_l07LockOk x1))]) (k_s_l07LockOk x1 _ rfl) Try.call62 (by as_aux_lemma => kernel_rfl) (by as_aux_lemma => kernel_rfl) (by as_aux_lemma => kernel_rfl) (by as_aux_lemma => kernel_rfl) ?_
                refine aa_takeM (fuel := 7) (listed' := #[true, true, true, true, false, false, false, false, false, false, false]) (l1 := [(1, pV 1), (3, iV s1), (4, pV 4), (16, lV 6 eLock p0.held), (17, iV (((((p0.held).map eLock).length : Nat) : Int))), (18, iV s1), (26, bV (!(s_l07LockOk x1)))]) [2, 3] tyOK (by as_aux_lemma => kernel_rfl) (by as_aux_lemma => kernel_rfl) (by as_aux_lemma => kernel_rfl) ?_
                refine aa_saysM (k := 26) (t := bV (!(s_l07LockOk x1))) (t' := bV true) (l1 := [(1, pV 1), (3, iV s1), (4, pV 4), (16, lV 6 eLock p0.held), (17, iV (((((p0.held).map eLock).length : Nat) : Int))), (18, iV s1), (26, bV true)]) (by as_aux_lemma => kernel_rfl) (by rw [h3]) (by as_aux_lemma => kernel_rfl) ?_
                refine aa_take (fuel := 2) (listed' := #[true, true, true, true, true, true, true, true, true, false, false]) (st' := mk 73 [(1, pV 1), (16, lV 6 eLock p0.held), (17, iV (((((p0.held).map eLock).length : Nat) : Int))), (18, iV s1), (26, bV true), (30, .tup []), (31, .tup [])] [(1, [.bx [.fz (lC 6 eLock p0.held), .fz (lC 6 eLock p0.wait)]])]) [4, 5, 6, 7, 8] [1, 16, 17, 18, 26, 30, 31] tyOK (by as_aux_lemma => kernel_rfl) (by as_aux_lemma => kernel_rfl) (by as_aux_lemma => kernel_rfl) ?_
                refine aa_all [9] (by as_aux_lemma => kernel_rfl) rfl ?_
                refine aa_cons ?_ aa_nil
                refine aone_anyM (listed' := #[true, true, true, true, true, true, true, true, true, true, false]) (l1 := [(1, pV 1), (16, lV 6 eLock p0.held), (17, iV (((((p0.held).map eLock).length : Nat) : Int))), (18, iV s1), (26, bV true), (32, .tup [])]) tyOK (by as_aux_lemma => kernel_rfl) (by as_aux_lemma => kernel_rfl) ?_
                refine aa_takeM (fuel := 0) (listed' := #[true, true, true, true, true, true, true, true, true, true, true]) (l1 := [(1, pV 1), (16, lV 6 eLock p0.held), (17, iV (((((p0.held).map eLock).length : Nat) : Int))), (18, iV s1), (33, bV true)]) [10] tyOK (by as_aux_lemma => kernel_rfl) (by as_aux_lemma => kernel_rfl) (by as_aux_lemma => kernel_rfl) ?_
                refine aa_done (by as_aux_lemma => kernel_rfl) ?_
                show _ = _; kernel_rfl
              obtain rfl := Option.some.inj h
              show ∃ _, _ ∧ Imp _ _ _
              refine ⟨_, rfl, ?_⟩
              exact imp_keepTo [1, 16, 17, 18, 33] (by as_aux_lemma => kernel_rfl) (imp_done rfl)
            · replace h := cF h3 h
              obtain ⟨c1, h⟩ := chk_e h
              obtain ⟨r1, er1, h⟩ := bnd_e h
              refine a_mid (mk 73 [(1, pV 1), (16, lV 6 eLock p0.held), (17, iV (((((p0.held).map eLock).length : Nat) : Int))), (18, iV s1), (33, bV r1)] [(1, [.bx [.fz (lC 6 eLock p0.held), .fz (lC 6 eLock p0.wait)]])]) ?_ ?_
              · refine a_drawn (n := 11) [] (by as_aux_lemma => kernel_rfl) (by as_aux_lemma => kernel_rfl) ?_
                refine aa_take (fuel := 10) (listed' := #[true, false, false, false, false, false, false, false, false, false, false]) (st' := mk 73 [(1, pV 1), (3, iV s1), (4, pV 4), (16, lV 6 eLock p0.held), (17, iV (((((p0.held).map eLock).length : Nat) : Int))), (18, iV s1), (23, .agg [.c (iC x1.tx.c), .c (iC x1.tx.e), .c (iC x1.tx.n), .c (sC x1.range.lo), .c (sC x1.range.hi), .c (bC x1.ex)])] [(1, [.bx [.fz (lC 6 eLock p0.held), .fz (lC 6 eLock p0.wait)]]), (4, [.bx [iC x1.tx.c, iC x1.tx.e, iC x1.tx.n, sC x1.range.lo, sC x1.range.hi, bC x1.ex]])]) [0] [1, 3, 4, 16, 17, 18, 23] tyOK (by as_aux_lemma => kernel_rfl) (by as_aux_lemma => kernel_rfl) (by as_aux_lemma => kernel_rfl) ?_
                refine aa_all [1] (by as_aux_lemma => kernel_rfl) rfl ?_
                refine aa_cons ?_ aa_nil
                refine aone_enterM (listed' := #[true, true, false, false, false, false, false, false, false, false, false]) (f := 62) (d := 24) (A := [.agg [.c (iC x1.tx.c), .c (iC x1.tx.e), .c (iC x1.tx.n), .c (sC x1.range.lo), .c (sC x1.range.hi), .c (bC x1.ex)]]) (l1 := [(1, pV 1), (3, iV s1), (4, pV 4), (16, lV 6 eLock p0.held), (17, iV (((((p0.held).map eLock).length : Nat) : Int))), (18, iV s1), (24, bV (s_l07LockOk x1))]) (k_s_l07LockOk x1 _ rfl) Try.call62 (by as_aux_lemma => kernel_rfl) (by as_aux_lemma => kernel_rfl) (by as_aux_lemma => kernel_rfl) (by as_aux_lemma => kernel_rfl) ?_
                refine aa_takeM (fuel := 7) (listed' := #[true, true, true, true, false, false, false, false, false, false, false]) (l1 := [(1, pV 1), (3, iV s1), (4, pV 4), (16, lV 6 eLock p0.held), (17, iV (((((p0.held).map eLock).length : Nat) : Int))), (18, iV s1), (26, bV (!(s_l07LockOk x1)))]) [2, 3] tyOK (by as_aux_lemma => kernel_rfl) (by as_aux_lemma => kernel_rfl) (by as_aux_lemma => kernel_rfl) ?_
                refine aa_saysM (k := 26) (t := bV (!(s_l07LockOk x1))) (t' := bV false) (l1 := [(1, pV 1), (3, iV s1), (4, pV 4), (16, lV 6 eLock p0.held), (17, iV (((((p0.held).map eLock).length : Nat) : Int))), (18, iV s1), (26, bV false)]) (by as_aux_lemma => kernel_rfl) (by rw [h3]) (by as_aux_lemma => kernel_rfl) ?_
                refine aa_take (fuel := 3) (listed' := #[true, true, true, true, true, true, true, false, true, false, false]) (st' := mk 73 [(1, pV 1), (16, lV 6 eLock p0.held), (17, iV (((((p0.held).map eLock).length : Nat) : Int))), (18, iV s1), (26, bV false), (28, lV 6 eLock p0.held), (29, iV s1), (31, .agg [.c (iC x1.tx.c), .c (iC x1.tx.e), .c (iC x1.tx.n), .c (sC x1.range.lo), .c (sC x1.range.hi), .c (bC x1.ex)])] [(1, [.bx [.fz (lC 6 eLock p0.held), .fz (lC 6 eLock p0.wait)]])]) [4, 5, 6, 8] [1, 16, 17, 18, 26, 28, 29, 31] tyOK (by as_aux_lemma => kernel_rfl) (by as_aux_lemma => kernel_rfl) (by as_aux_lemma => kernel_rfl) ?_
                refine aa_q (i := 7) (d := 30) (c := (0 ≤ (0 : Int) ∧ (0 : Int) ≤ s1 ∧ s1 ≤ (((p0.held).map eLock).length : Int) ∧ ((p0.held).map eLock).all (fun r => r.length == 6) = true)) (tv := .one (.c (.sl 6 ((((p0.held).map eLock).take s1.toNat).drop (0 : Int).toNat)))) (listed' := #[true, true, true, true, true, true, true, true, true, false, false]) (st1 := mk 73 [(1, pV 1), (16, lV 6 eLock p0.held), (17, iV (((((p0.held).map eLock).length : Nat) : Int))), (18, iV s1), (26, bV false), (30, .one (.c (.sl 6 ((((p0.held).map eLock).take s1.toNat).drop (0 : Int).toNat)))), (31, .agg [.c (iC x1.tx.c), .c (iC x1.tx.e), .c (iC x1.tx.n), .c (sC x1.range.lo), .c (sC x1.range.hi), .c (bC x1.ex)])] [(1, [.bx [.fz (lC 6 eLock p0.held), .fz (lC 6 eLock p0.wait)]])]) [1, 16, 17, 18, 26, 30, 31] tyOK (by as_aux_lemma => kernel_rfl) (by as_aux_lemma => kernel_rfl) (by simpa [eLock] using c1) (by as_aux_lemma => kernel_rfl) (by as_aux_lemma => kernel_rfl) (by as_aux_lemma => kernel_rfl) ?_
                refine aa_saysM (k := 30) (t := .one (.c (.sl 6 ((((p0.held).map eLock).take s1.toNat).drop (0 : Int).toNat)))) (t' := lV 6 eLock (p0.held.take ((s1).toNat))) (l1 := [(1, pV 1), (16, lV 6 eLock p0.held), (17, iV (((((p0.held).map eLock).length : Nat) : Int))), (18, iV s1), (26, bV false), (30, lV 6 eLock (p0.held.take ((s1).toNat))), (31, .agg [.c (iC x1.tx.c), .c (iC x1.tx.e), .c (iC x1.tx.n), .c (sC x1.range.lo), .c (sC x1.range.hi), .c (bC x1.ex)])]) (by as_aux_lemma => kernel_rfl) (by simp [List.map_take, List.map_drop]) (by as_aux_lemma => kernel_rfl) ?_
                refine aa_all [9] (by as_aux_lemma => kernel_rfl) rfl ?_
                refine aa_cons ?_ aa_nil
                refine aone_enterM (listed' := #[true, true, true, true, true, true, true, true, true, true, false]) (f := 65) (d := 32) (A := [lV 6 eLock (p0.held.take ((s1).toNat)), .agg [.c (iC x1.tx.c), .c (iC x1.tx.e), .c (iC x1.tx.n), .c (sC x1.range.lo), .c (sC x1.range.hi), .c (bC x1.ex)]]) (l1 := [(1, pV 1), (16, lV 6 eLock p0.held), (17, iV (((((p0.held).map eLock).length : Nat) : Int))), (18, iV s1), (26, bV false), (32, bV r1)]) (k_s_l07Any (p0.held.take ((s1).toNat)) x1 r1 er1) Try.call65 (by as_aux_lemma => kernel_rfl) (by as_aux_lemma => kernel_rfl) (by as_aux_lemma => kernel_rfl) (by as_aux_lemma => kernel_rfl) ?_
                refine aa_takeM (fuel := 0) (listed' := #[true, true, true, true, true, true, true, true, true, true, true]) (l1 := [(1, pV 1), (16, lV 6 eLock p0.held), (17, iV (((((p0.held).map eLock).length : Nat) : Int))), (18, iV s1), (33, bV r1)]) [10] tyOK (by as_aux_lemma => kernel_rfl) (by as_aux_lemma => kernel_rfl) (by as_aux_lemma => kernel_rfl) ?_
                refine aa_done (by as_aux_lemma => kernel_rfl) ?_
                show _ = _; kernel_rfl
              obtain rfl := Option.some.inj h
              show ∃ _, _ ∧ Imp _ _ _
              refine ⟨_, rfl, ?_⟩
              exact imp_keepTo [1, 16, 17, 18, 33] (by as_aux_lemma => kernel_rfl) (imp_done rfl)
          intro j1 hj1
          replace h := ky3 _ hj1
          refine a_cond (b := j1) (by as_aux_lemma => kernel_rfl) (fun h4 => ?_) (fun h4 => ?_)
          · replace h := cT h4 h
            refine a_seq ?_
            refine a_run [2] tyOK (st1 := mk 73 [(2, bV false)] []) (by as_aux_lemma => kernel_rfl) ?_
            refine a_ret ?_
            obtain rfl := Option.some.inj h
            obtain rfl := zy2 _ rfl
            obtain rfl := zy1 _ rfl
            exact end_eq (res' := bV false) (by as_aux_lemma => kernel_rfl) (by first | rfl | simp)
          · replace h := cF h4 h
            refine a_skip ?_
            refine a_run [1, 16, 17, 18] tyOK (st1 := mk 73 [(1, pV 1), (16, lV 6 eLock p0.held), (17, iV (((((p0.held).map eLock).length : Nat) : Int))), (18, iV (IntKind.wrap .i64 (s1 + 1)))] [(1, [.bx [.fz (lC 6 eLock p0.held), .fz (lC 6 eLock p0.wait)]])]) (by as_aux_lemma => kernel_rfl) ?_
            obtain rfl := Option.some.inj h
            show ∃ _, _ ∧ Imp _ _ _
            refine ⟨_, rfl, ?_⟩
            exact imp_keepTo [1, 16, 17, 18] (by as_aux_lemma => kernel_rfl) (imp_done rfl)
        · replace h := cF h2 h
          refine a_exit ?_
          obtain rfl := Option.some.inj h
          obtain rfl := zy2 _ rfl
          show ∃ _, _ ∧ Imp _ _ _
          refine ⟨_, rfl, ?_⟩
          exact imp_keepTo [1] (by as_aux_lemma => kernel_rfl) (imp_done rfl)
      intro j2 hj2
      replace h := ky1 _ hj2
      refine a_seq ?_
      refine a_seq ?_
      refine a_run [1, 36, 37, 38] tyOK (st1 := mk 73 [(1, pV 1), (36, lV 6 eLock p0.wait), (37, iV (((((p0.wait).map eLock).length : Nat) : Int))), (38, iV 0)] [(1, [.bx [.fz (lC 6 eLock p0.held), .fz (lC 6 eLock p0.wait)]])]) (by as_aux_lemma => kernel_rfl) ?_
      obtain ⟨y4, h, ky4, zy4⟩ := bndS_e h
      refine a_joinT (ι := Unit) (fun j => mk 73 [] []) (fun j => y4 = .inl j) ?_ ?_
      · refine a_block ?_
        refine a_loopT (Bs_LocksOk_2 p0) (fun s2 => mk 73 [(1, pV 1), (36, lV 6 eLock p0.wait), (37, iV (((((p0.wait).map eLock).length : Nat) : Int))), (38, iV s2)] [(1, [.bx [.fz (lC 6 eLock p0.held), .fz (lC 6 eLock p0.wait)]])]) 0 h ?_ ?_
        · exact imp_keepTo [1, 36, 37, 38] (by as_aux_lemma => kernel_rfl) (imp_done rfl)
        intro s2 y5 h zy5
        unfold Bs_LocksOk_2 at h
        refine a_seq ?_
        refine a_run [1, 36, 37, 38, 39] tyOK (st1 := mk 73 [(1, pV 1), (36, lV 6 eLock p0.wait), (37, iV (((((p0.wait).map eLock).length : Nat) : Int))), (38, iV s2), (39, bV (decide (s2 < (((((p0.wait).map eLock).length : Nat) : Int)))))] [(1, [.bx [.fz (lC 6 eLock p0.held), .fz (lC 6 eLock p0.wait)]])]) (by as_aux_lemma => kernel_rfl) ?_
        refine a_seq ?_
        refine a_cond (b := decide (s2 < (((((p0.wait).map eLock).length : Nat) : Int)))) (by as_aux_lemma => kernel_rfl) (fun h5 => ?_) (fun h5 => ?_)
        · replace h := cT h5 h
          refine a_skip ?_
          refine a_seq ?_
          refine a_block ?_
          refine a_seq ?_
          refine a_ops [0, 1, 2, 3, 4, 5] (by as_aux_lemma => kernel_rfl) ?_
          refine ao_some [0] [1, 2, 3, 4, 5] [1, 36, 37, 38, 40] tyOK (st1 := mk 73 [(1, pV 1), (36, lV 6 eLock p0.wait), (37, iV (((((p0.wait).map eLock).length : Nat) : Int))), (38, iV s2), (40, iV s2)] [(1, [.bx [.fz (lC 6 eLock p0.held), .fz (lC 6 eLock p0.wait)]])]) (by as_aux_lemma => kernel_rfl) ?_
          obtain ⟨x2, ex2, h⟩ := bnd_e h
          refine ao_indexM (d := 41) (size := 6) (n := s2) (rows := (p0.wait).map eLock) (l1 := [(1, pV 1), (36, lV 6 eLock p0.wait), (37, iV (((((p0.wait).map eLock).length : Nat) : Int))), (38, iV s2), (40, iV s2), (41, .one (.fp [iC x2.tx.c, iC x2.tx.e, iC x2.tx.n, sC x2.range.lo, sC x2.range.hi, bC x2.ex] 0))]) (eLock x2) tyOK (by as_aux_lemma => kernel_rfl) (getI_e ex2).1 (show ((p0.wait).map eLock)[_]? = some _ from by rw [List.getElem?_map, (getI_e ex2).2]; rfl) (by as_aux_lemma => kernel_rfl) (by as_aux_lemma => kernel_rfl) ?_
          refine ao_some [2, 3, 4, 5] [] [1, 5, 6, 36, 37, 38] tyOK (st1 := mk 73 [(1, pV 1), (5, iV s2), (6, pV 6), (36, lV 6 eLock p0.wait), (37, iV (((((p0.wait).map eLock).length : Nat) : Int))), (38, iV s2)] [(1, [.bx [.fz (lC 6 eLock p0.held), .fz (lC 6 eLock p0.wait)]]), (6, [.bx [iC x2.tx.c, iC x2.tx.e, iC x2.tx.n, sC x2.range.lo, sC x2.range.hi, bC x2.ex]])]) (by as_aux_lemma => kernel_rfl) ?_
          refine ao_nil ?_
          refine a_seq ?_
          obtain ⟨y6, h, ky6⟩ := bndJ_e h
          refine a_joinT (ι := Bool) (fun j => mk 73 [(1, pV 1), (36, lV 6 eLock p0.wait), (37, iV (((((p0.wait).map eLock).length : Nat) : Int))), (38, iV s2), (71, bV j)] [(1, [.bx [.fz (lC 6 eLock p0.held), .fz (lC 6 eLock p0.wait)]])]) (fun j => y6 = j) ?_ ?_
          · rcases Bool.eq_false_or_eq_true (!(s_l07LockOk x2)) with h6 | h6
            · replace h := cT h6 h
              refine a_mid (mk 73 [(1, pV 1), (36, lV 6 eLock p0.wait), (37, iV (((((p0.wait).map eLock).length : Nat) : Int))), (38, iV s2), (71, bV true)] [(1, [.bx [.fz (lC 6 eLock p0.held), .fz (lC 6 eLock p0.wait)]])]) ?_ ?_
              · refine a_drawn (n := 29) [] (by as_aux_lemma => kernel_rfl) (by as_aux_lemma => kernel_rfl) ?_
                refine aa_take (fuel := 28) (listed' := #[true, false, false, false, false, false, false, false, false, false, false, false, false, false, false, false, false, false, false, false, false, false, false, false, false, false, false, false, false]) (st' := mk 73 [(1, pV 1), (5, iV s2), (6, pV 6), (36, lV 6 eLock p0.wait), (37, iV (((((p0.wait).map eLock).length : Nat) : Int))), (38, iV s2), (43, .agg [.c (iC x2.tx.c), .c (iC x2.tx.e), .c (iC x2.tx.n), .c (sC x2.range.lo), .c (sC x2.range.hi), .c (bC x2.ex)])] [(1, [.bx [.fz (lC 6 eLock p0.held), .fz (lC 6 eLock p0.wait)]]), (6, [.bx [iC x2.tx.c, iC x2.tx.e, iC x2.tx.n, sC x2.range.lo, sC x2.range.hi, bC x2.ex]])]) [0] [1, 5, 6, 36, 37, 38, 43] tyOK (by as_aux_lemma => kernel_rfl) (by as_aux_lemma => kernel_rfl) (by as_aux_lemma => kernel_rfl) ?_
                refine aa_all [1] (by as_aux_lemma => kernel_rfl) rfl ?_
                refine aa_cons ?_ aa_nil
                refine aone_enterM (listed' := #[true, true, false, false, false, false, false, false, false, false, false, false, false, false, false, false, false, false, false, false, false, false, false, false, false, false, false, false, false]) (f := 62) (d := 44) (A := [.agg [.c (iC x2.tx.c), .c (iC x2.tx.e), .c (iC x2.tx.n), .c (sC x2.range.lo), .c (sC x2.range.hi), .c (bC x2.ex)]]) (l1 := [(1, pV 1), (5, iV s2), (6, pV 6), (36, lV 6 eLock p0.wait), (37, iV (((((p0.wait).map eLock).length : Nat) : Int))), (38, iV s2), (44, bV (s_l07LockOk x2))]) (k_s_l07LockOk x2 _ rfl) Try.call62 (by as_aux_lemma => kernel_rfl) (by as_aux_lemma => kernel_rfl) (by as_aux_lemma => kernel_rfl) (by as_aux_lemma => kernel_rfl) ?_
                refine aa_takeM (fuel := 25) (listed' := #[true, true, true, true, false, false, false, false, false, false, false, false, false, false, false, false, false, false, false, false, false, false, false, false, false, false, false, false, false]) (l1 := [(1, pV 1), (5, iV s2), (6, pV 6), (36, lV 6 eLock p0.wait), (37, iV (((((p0.wait).map eLock).length : Nat) : Int))), (38, iV s2), (46, bV (!(s_l07LockOk x2)))]) [2, 3] tyOK (by as_aux_lemma => kernel_rfl) (by as_aux_lemma => kernel_rfl) (by as_aux_lemma => kernel_rfl) ?_
                refine aa_saysM (k := 46) (t := bV (!(s_l07LockOk x2))) (t' := bV true) (l1 := [(1, pV 1), (5, iV s2), (6, pV 6), (36, lV 6 eLock p0.wait), (37, iV (((((p0.wait).map eLock).length : Nat) : Int))), (38, iV s2), (46, bV true)]) (by as_aux_lemma => kernel_rfl) (by rw [h6]) (by as_aux_lemma => kernel_rfl) ?_
                refine aa_takeM (fuel := 18) (listed' := #[true, true, true, true, true, true, true, true, true, true, true, false, false, false, false, false, false, false, false, false, false, false, false, false, false, false, false, false, false]) (l1 := [(1, pV 1), (5, iV s2), (6, pV 6), (36, lV 6 eLock p0.wait), (37, iV (((((p0.wait).map eLock).length : Nat) : Int))), (38, iV s2), (46, bV true), (51, .tup []), (53, .tup [])]) [4, 5, 6, 7, 8, 9, 10] tyOK (by as_aux_lemma => kernel_rfl) (by as_aux_lemma => kernel_rfl) (by as_aux_lemma => kernel_rfl) ?_
                refine aa_all [11] (by as_aux_lemma => kernel_rfl) rfl ?_
                refine aa_cons ?_ aa_nil
                refine aone_anyM (listed' := #[true, true, true, true, true, true, true, true, true, true, true, true, false, false, false, false, false, false, false, false, false, false, false, false, false, false, false, false, false]) (l1 := [(1, pV 1), (5, iV s2), (6, pV 6), (36, lV 6 eLock p0.wait), (37, iV (((((p0.wait).map eLock).length : Nat) : Int))), (38, iV s2), (46, bV true), (54, .tup [])]) tyOK (by as_aux_lemma => kernel_rfl) (by as_aux_lemma => kernel_rfl) ?_
                refine aa_takeM (fuel := 12) (listed' := #[true, true, true, true, true, true, true, true, true, true, true, true, true, true, true, true, true, false, false, false, false, false, false, false, false, false, false, false, false]) (l1 := [(1, pV 1), (5, iV s2), (6, pV 6), (36, lV 6 eLock p0.wait), (37, iV (((((p0.wait).map eLock).length : Nat) : Int))), (38, iV s2), (56, bV true), (58, .tup []), (59, .tup [])]) [12, 13, 14, 15, 16] tyOK (by as_aux_lemma => kernel_rfl) (by as_aux_lemma => kernel_rfl) (by as_aux_lemma => kernel_rfl) ?_
                refine aa_all [17] (by as_aux_lemma => kernel_rfl) rfl ?_
                refine aa_cons ?_ aa_nil
                refine aone_anyM (listed' := #[true, true, true, true, true, true, true, true, true, true, true, true, true, true, true, true, true, true, false, false, false, false, false, false, false, false, false, false, false]) (l1 := [(1, pV 1), (5, iV s2), (6, pV 6), (36, lV 6 eLock p0.wait), (37, iV (((((p0.wait).map eLock).length : Nat) : Int))), (38, iV s2), (56, bV true), (60, .tup [])]) tyOK (by as_aux_lemma => kernel_rfl) (by as_aux_lemma => kernel_rfl) ?_
                refine aa_take (fuel := 4) (listed' := #[true, true, true, true, true, true, true, true, true, true, true, true, true, true, true, true, true, true, true, true, true, true, true, true, true, false, false, false, false]) (st' := mk 73 [(1, pV 1), (36, lV 6 eLock p0.wait), (37, iV (((((p0.wait).map eLock).length : Nat) : Int))), (38, iV s2), (56, bV true), (62, .tup []), (66, .tup []), (67, .tup [])] [(1, [.bx [.fz (lC 6 eLock p0.held), .fz (lC 6 eLock p0.wait)]])]) [18, 19, 20, 21, 22, 23, 24] [1, 36, 37, 38, 56, 62, 66, 67] tyOK (by as_aux_lemma => kernel_rfl) (by as_aux_lemma => kernel_rfl) (by as_aux_lemma => kernel_rfl) ?_
                refine aa_all [25] (by as_aux_lemma => kernel_rfl) rfl ?_
                refine aa_cons ?_ aa_nil
                refine aone_anyM (listed' := #[true, true, true, true, true, true, true, true, true, true, true, true, true, true, true, true, true, true, true, true, true, true, true, true, true, true, false, false, false]) (l1 := [(1, pV 1), (36, lV 6 eLock p0.wait), (37, iV (((((p0.wait).map eLock).length : Nat) : Int))), (38, iV s2), (56, bV true), (62, .tup []), (68, .tup [])]) tyOK (by as_aux_lemma => kernel_rfl) (by as_aux_lemma => kernel_rfl) ?_
                refine aa_takeM (fuel := 0) (listed' := #[true, true, true, true, true, true, true, true, true, true, true, true, true, true, true, true, true, true, true, true, true, true, true, true, true, true, true, true, true]) (l1 := [(1, pV 1), (36, lV 6 eLock p0.wait), (37, iV (((((p0.wait).map eLock).length : Nat) : Int))), (38, iV s2), (71, bV true)]) [26, 27, 28] tyOK (by as_aux_lemma => kernel_rfl) (by as_aux_lemma => kernel_rfl) (by as_aux_lemma => kernel_rfl) ?_
                refine aa_done (by as_aux_lemma => kernel_rfl) ?_
                show _ = _; kernel_rfl
              obtain rfl := Option.some.inj h
              show ∃ _, _ ∧ Imp _ _ _
              refine ⟨_, rfl, ?_⟩
              exact imp_keepTo [1, 36, 37, 38, 71] (by as_aux_lemma => kernel_rfl) (imp_done rfl)
            · replace h := cF h6 h
              obtain ⟨c2, h⟩ := chk_e h
              obtain ⟨r2, er2, h⟩ := bnd_e h
              rcases Bool.eq_false_or_eq_true (r2) with h7 | h7
              · replace h := cT h7 h
                refine a_mid (mk 73 [(1, pV 1), (36, lV 6 eLock p0.wait), (37, iV (((((p0.wait).map eLock).length : Nat) : Int))), (38, iV s2), (71, bV true)] [(1, [.bx [.fz (lC 6 eLock p0.held), .fz (lC 6 eLock p0.wait)]])]) ?_ ?_
                · refine a_drawn (n := 29) [] (by as_aux_lemma => kernel_rfl) (by as_aux_lemma => kernel_rfl) ?_
                  refine aa_take (fuel := 28) (listed' := #[true, false, false, false, false, false, false, false, false, false, false, false, false, false, false, false, false, false, false, false, false, false, false, false, false, false, false, false, false]) (st' := mk 73 [(1, pV 1), (5, iV s2), (6, pV 6), (36, lV 6 eLock p0.wait), (37, iV (((((p0.wait).map eLock).length : Nat) : Int))), (38, iV s2), (43, .agg [.c (iC x2.tx.c), .c (iC x2.tx.e), .c (iC x2.tx.n), .c (sC x2.range.lo), .c (sC x2.range.hi), .c (bC x2.ex)])] [(1, [.bx [.fz (lC 6 eLock p0.held), .fz (lC 6 eLock p0.wait)]]), (6, [.bx [iC x2.tx.c, iC x2.tx.e, iC x2.tx.n, sC x2.range.lo, sC x2.range.hi, bC x2.ex]])]) [0] [1, 5, 6, 36, 37, 38, 43] tyOK (by as_aux_lemma => kernel_rfl) (by as_aux_lemma => kernel_rfl) (by as_aux_lemma => kernel_rfl) ?_
                  refine aa_all [1] (by as_aux_lemma => kernel_rfl) rfl ?_
                  refine aa_cons ?_ aa_nil
                  refine aone_enterM (listed' := #[true, true, false, false, false, false, false, false, false, false, false, false, false, false, false, false, false, false, false, false, false, false, false, false, false, false, false, false, false]) (f := 62) (d := 44) (A := [.agg [.c (iC x2.tx.c), .c (iC x2.tx.e), .c (iC x2.tx.n), .c (sC x2.range.lo), .c (sC x2.range.hi), .c (bC x2.ex)]]) (l1 := [(1, pV 1), (5, iV s2), (6, pV 6), (36, lV 6 eLock p0.wait), (37, iV (((((p0.wait).map eLock).length : Nat) : Int))), (38, iV s2), (44, bV (s_l07LockOk x2))]) (k_s_l07LockOk x2 _ rfl) Try.call62 (by as_aux_lemma => kernel_rfl) (by as_aux_lemma => kernel_rfl) (by as_aux_lemma => kernel_rfl) (by as_aux_lemma => kernel_rfl) ?_
                  refine aa_takeM (fuel := 25) (listed' := #[true, true, true, true, false, false, false, false, false, false, false, false, false, false, false, false, false, false, false, false, false, false, false, false, false, false, false, false, false]) (l1 := [(1, pV 1), (5, iV s2), (6, pV 6), (36, lV 6 eLock p0.wait), (37, iV (((((p0.wait).map eLock).length : Nat) : Int))), (38, iV s2), (46, bV (!(s_l07LockOk x2)))]) [2, 3] tyOK (by as_aux_lemma => kernel_rfl) (by as_aux_lemma => kernel_rfl) (by as_aux_lemma => kernel_rfl) ?_
                  refine aa_saysM (k := 46) (t := bV (!(s_l07LockOk x2))) (t' := bV false) (l1 := [(1, pV 1), (5, iV s2), (6, pV 6), (36, lV 6 eLock p0.wait), (37, iV (((((p0.wait).map eLock).length : Nat) : Int))), (38, iV s2), (46, bV false)]) (by as_aux_lemma => kernel_rfl) (by rw [h6]) (by as_aux_lemma => kernel_rfl) ?_
                  refine aa_takeM (fuel := 20) (listed' := #[true, true, true, true, true, true, true, false, false, true, true, false, false, false, false, false, false, false, false, false, false, false, false, false, false, false, false, false, false]) (l1 := [(1, pV 1), (5, iV s2), (6, pV 6), (36, lV 6 eLock p0.wait), (37, iV (((((p0.wait).map eLock).length : Nat) : Int))), (38, iV s2), (46, bV false), (48, lV 6 eLock p0.wait), (49, iV s2), (53, .agg [.c (iC x2.tx.c), .c (iC x2.tx.e), .c (iC x2.tx.n)])]) [4, 5, 6, 9, 10] tyOK (by as_aux_lemma => kernel_rfl) (by as_aux_lemma => kernel_rfl) (by as_aux_lemma => kernel_rfl) ?_
                  refine aa_q (i := 7) (d := 50) (c := (0 ≤ (0 : Int) ∧ (0 : Int) ≤ s2 ∧ s2 ≤ (((p0.wait).map eLock).length : Int) ∧ ((p0.wait).map eLock).all (fun r => r.length == 6) = true)) (tv := .one (.c (.sl 6 ((((p0.wait).map eLock).take s2.toNat).drop (0 : Int).toNat)))) (listed' := #[true, true, true, true, true, true, true, true, false, true, true, false, false, false, false, false, false, false, false, false, false, false, false, false, false, false, false, false, false]) (st1 := mk 73 [(1, pV 1), (5, iV s2), (6, pV 6), (36, lV 6 eLock p0.wait), (37, iV (((((p0.wait).map eLock).length : Nat) : Int))), (38, iV s2), (46, bV false), (50, .one (.c (.sl 6 ((((p0.wait).map eLock).take s2.toNat).drop (0 : Int).toNat)))), (53, .agg [.c (iC x2.tx.c), .c (iC x2.tx.e), .c (iC x2.tx.n)])] [(1, [.bx [.fz (lC 6 eLock p0.held), .fz (lC 6 eLock p0.wait)]]), (6, [.bx [iC x2.tx.c, iC x2.tx.e, iC x2.tx.n, sC x2.range.lo, sC x2.range.hi, bC x2.ex]])]) [1, 5, 6, 36, 37, 38, 46, 50, 53] tyOK (by as_aux_lemma => kernel_rfl) (by as_aux_lemma => kernel_rfl) (by simpa [eLock] using c2) (by as_aux_lemma => kernel_rfl) (by as_aux_lemma => kernel_rfl) (by as_aux_lemma => kernel_rfl) ?_
                  refine aa_saysM (k := 50) (t := .one (.c (.sl 6 ((((p0.wait).map eLock).take s2.toNat).drop (0 : Int).toNat)))) (t' := lV 6 eLock (p0.wait.take ((s2).toNat))) (l1 := [(1, pV 1), (5, iV s2), (6, pV 6), (36, lV 6 eLock p0.wait), (37, iV (((((p0.wait).map eLock).length : Nat) : Int))), (38, iV s2), (46, bV false), (50, lV 6 eLock (p0.wait.take ((s2).toNat))), (53, .agg [.c (iC x2.tx.c), .c (iC x2.tx.e), .c (iC x2.tx.n)])]) (by as_aux_lemma => kernel_rfl) (by simp [List.map_take, List.map_drop]) (by as_aux_lemma => kernel_rfl) ?_
                  refine aa_all [8] (by as_aux_lemma => kernel_rfl) rfl ?_
                  refine aa_cons ?_ aa_nil
                  refine aone_anyM (listed' := #[true, true, true, true, true, true, true, true, true, true, true, false, false, false, false, false, false, false, false, false, false, false, false, false, false, false, false, false, false]) (l1 := [(1, pV 1), (5, iV s2), (6, pV 6), (36, lV 6 eLock p0.wait), (37, iV (((((p0.wait).map eLock).length : Nat) : Int))), (38, iV s2), (46, bV false), (51, .agg [.c (.v (.slice none 0 0)), .c (lC 6 eLock (p0.wait.take ((s2).toNat)))]), (53, .agg [.c (iC x2.tx.c), .c (iC x2.tx.e), .c (iC x2.tx.n)])]) tyOK (by as_aux_lemma => kernel_rfl) (by as_aux_lemma => kernel_rfl) ?_
                  refine aa_all [11] (by as_aux_lemma => kernel_rfl) rfl ?_
                  refine aa_cons ?_ aa_nil
                  refine aone_lend (listed' := #[true, true, true, true, true, true, true, true, true, true, true, true, false, false, false, false, false, false, false, false, false, false, false, false, false, false, false, false, false]) (f := 63) (d := 54) (A := [.agg [.c (.v (.slice none 0 0)), .c (lC 6 eLock (p0.wait.take ((s2).toNat)))], .agg [.c (iC x2.tx.c), .c (iC x2.tx.e), .c (iC x2.tx.n)]]) (A' := [.agg [.c (.sl 6 ([])), .c (lC 6 eLock (p0.wait.take ((s2).toNat)))], .agg [.c (iC x2.tx.c), .c (iC x2.tx.e), .c (iC x2.tx.n)]]) (st1 := mk 73 [(1, pV 1), (5, iV s2), (6, pV 6), (36, lV 6 eLock p0.wait), (37, iV (((((p0.wait).map eLock).length : Nat) : Int))), (38, iV s2), (46, bV false), (54, bV r2)] [(1, [.bx [.fz (lC 6 eLock p0.held), .fz (lC 6 eLock p0.wait)]]), (6, [.bx [iC x2.tx.c, iC x2.tx.e, iC x2.tx.n, sC x2.range.lo, sC x2.range.hi, bC x2.ex]])]) [1, 5, 6, 36, 37, 38, 46, 54] (k_s_l07Waits ((⟨[], p0.wait.take ((s2).toNat)⟩ : Locks)) x2.tx r2 er2) Try.call63 (by as_aux_lemma => kernel_rfl) (.cons (.agg (.cons .nilv (.cons (.same rfl) .nil))) (.cons (.agg (.cons (.same rfl) (.cons (.same rfl) (.cons (.same rfl) .nil)))) .nil)) (by as_aux_lemma => kernel_rfl) (clean_nil) (by as_aux_lemma => kernel_rfl) (by as_aux_lemma => kernel_rfl) (by as_aux_lemma => kernel_rfl) ?_
                  refine aa_takeM (fuel := 15) (listed' := #[true, true, true, true, true, true, true, true, true, true, true, true, true, true, false, false, false, false, false, false, false, false, false, false, false, false, false, false, false]) (l1 := [(1, pV 1), (5, iV s2), (6, pV 6), (36, lV 6 eLock p0.wait), (37, iV (((((p0.wait).map eLock).length : Nat) : Int))), (38, iV s2), (56, bV r2)]) [12, 13] tyOK (by as_aux_lemma => kernel_rfl) (by as_aux_lemma => kernel_rfl) (by as_aux_lemma => kernel_rfl) ?_
                  refine aa_saysM (k := 56) (t := bV r2) (t' := bV true) (l1 := [(1, pV 1), (5, iV s2), (6, pV 6), (36, lV 6 eLock p0.wait), (37, iV (((((p0.wait).map eLock).length : Nat) : Int))), (38, iV s2), (56, bV true)]) (by as_aux_lemma => kernel_rfl) (by rw [h7]) (by as_aux_lemma => kernel_rfl) ?_
                  refine aa_takeM (fuel := 12) (listed' := #[true, true, true, true, true, true, true, true, true, true, true, true, true, true, true, true, true, false, false, false, false, false, false, false, false, false, false, false, false]) (l1 := [(1, pV 1), (5, iV s2), (6, pV 6), (36, lV 6 eLock p0.wait), (37, iV (((((p0.wait).map eLock).length : Nat) : Int))), (38, iV s2), (56, bV true), (58, .tup []), (59, .tup [])]) [14, 15, 16] tyOK (by as_aux_lemma => kernel_rfl) (by as_aux_lemma => kernel_rfl) (by as_aux_lemma => kernel_rfl) ?_
                  refine aa_all [17] (by as_aux_lemma => kernel_rfl) rfl ?_
                  refine aa_cons ?_ aa_nil
                  refine aone_anyM (listed' := #[true, true, true, true, true, true, true, true, true, true, true, true, true, true, true, true, true, true, false, false, false, false, false, false, false, false, false, false, false]) (l1 := [(1, pV 1), (5, iV s2), (6, pV 6), (36, lV 6 eLock p0.wait), (37, iV (((((p0.wait).map eLock).length : Nat) : Int))), (38, iV s2), (56, bV true), (60, .tup [])]) tyOK (by as_aux_lemma => kernel_rfl) (by as_aux_lemma => kernel_rfl) ?_
                  refine aa_take (fuel := 4) (listed' := #[true, true, true, true, true, true, true, true, true, true, true, true, true, true, true, true, true, true, true, true, true, true, true, true, true, false, false, false, false]) (st' := mk 73 [(1, pV 1), (36, lV 6 eLock p0.wait), (37, iV (((((p0.wait).map eLock).length : Nat) : Int))), (38, iV s2), (56, bV true), (62, .tup []), (66, .tup []), (67, .tup [])] [(1, [.bx [.fz (lC 6 eLock p0.held), .fz (lC 6 eLock p0.wait)]])]) [18, 19, 20, 21, 22, 23, 24] [1, 36, 37, 38, 56, 62, 66, 67] tyOK (by as_aux_lemma => kernel_rfl) (by as_aux_lemma => kernel_rfl) (by as_aux_lemma => kernel_rfl) ?_
                  refine aa_all [25] (by as_aux_lemma => kernel_rfl) rfl ?_
                  refine aa_cons ?_ aa_nil
                  refine aone_anyM (listed' := #[true, true, true, true, true, true, true, true, true, true, true, true, true, true, true, true, true, true, true, true, true, true, true, true, true, true, false, false, false]) (l1 := [(1, pV 1), (36, lV 6 eLock p0.wait), (37, iV (((((p0.wait).map eLock).length : Nat) : Int))), (38, iV s2), (56, bV true), (62, .tup []), (68, .tup [])]) tyOK (by as_aux_lemma => kernel_rfl) (by as_aux_lemma => kernel_rfl) ?_
                  refine aa_takeM (fuel := 0) (listed' := #[true, true, true, true, true, true, true, true, true, true, true, true, true, true, true, true, true, true, true, true, true, true, true, true, true, true, true, true, true]) (l1 := [(1, pV 1), (36, lV 6 eLock p0.wait), (37, iV (((((p0.wait).map eLock).length : Nat) : Int))), (38, iV s2), (71, bV true)]) [26, 27, 28] tyOK (by as_aux_lemma => kernel_rfl) (by as_aux_lemma => kernel_rfl) (by as_aux_lemma => kernel_rfl) ?_
                  refine aa_done (by as_aux_lemma => kernel_rfl) ?_
                  show _ = _; kernel_rfl
                obtain rfl := Option.some.inj h
                show ∃ _, _ ∧ Imp _ _ _
                refine ⟨_, rfl, ?_⟩
                exact imp_keepTo [1, 36, 37, 38, 71] (by as_aux_lemma => kernel_rfl) (imp_done rfl)
              · replace h := cF h7 h
                obtain ⟨r3, er3, h⟩ := bnd_e h
                rcases Bool.eq_false_or_eq_true (!r3) with h8 | h8
                · replace h := cT h8 h
                  obtain ⟨c3, h⟩ := chk_e h
                  obtain ⟨r4, er4, h⟩ := bnd_e h
                  refine a_mid (mk 73 [(1, pV 1), (36, lV 6 eLock p0.wait), (37, iV (((((p0.wait).map eLock).length : Nat) : Int))), (38, iV s2), (71, bV (!r4))] [(1, [.bx [.fz (lC 6 eLock p0.held), .fz (lC 6 eLock p0.wait)]])]) ?_ ?_
                  · refine a_drawn (n := 29) [] (by as_aux_lemma => kernel_rfl) (by as_aux_lemma => kernel_rfl) ?_
                    refine aa_take (fuel := 28) (listed' := #[true, false, false, false, false, false, false, false, false, false, false, false, false, false, false, false, false, false, false, false, false, false, false, false, false, false, false, false, false]) (st' := mk 73 [(1, pV 1), (5, iV s2), (6, pV 6), (36, lV 6 eLock p0.wait), (37, iV (((((p0.wait).map eLock).length : Nat) : Int))), (38, iV s2), (43, .agg [.c (iC x2.tx.c), .c (iC x2.tx.e), .c (iC x2.tx.n), .c (sC x2.range.lo), .c (sC x2.range.hi), .c (bC x2.ex)])] [(1, [.bx [.fz (lC 6 eLock p0.held), .fz (lC 6 eLock p0.wait)]]), (6, [.bx [iC x2.tx.c, iC x2.tx.e, iC x2.tx.n, sC x2.range.lo, sC x2.range.hi, bC x2.ex]])]) [0] [1, 5, 6, 36, 37, 38, 43] tyOK (by as_aux_lemma => kernel_rfl) (by as_aux_lemma => kernel_rfl) (by as_aux_lemma => kernel_rfl) ?_
                    refine aa_all [1] (by as_aux_lemma => kernel_rfl) rfl ?_
                    refine aa_cons ?_ aa_nil
                    refine aone_enterM (listed' := #[true, true, false, false, false, false, false, false, false, false, false, false, false, false, false, false, false, false, false, false, false, false, false, false, false, false, false, false, false]) (f := 62) (d := 44) (A := [.agg [.c (iC x2.tx.c), .c (iC x2.tx.e), .c (iC x2.tx.n), .c (sC x2.range.lo), .c (sC x2.range.hi), .c (bC x2.ex)]]) (l1 := [(1, pV 1), (5, iV s2), (6, pV 6), (36, lV 6 eLock p0.wait), (37, iV (((((p0.wait).map eLock).length : Nat) : Int))), (38, iV s2), (44, bV (s_l07LockOk x2))]) (k_s_l07LockOk x2 _ rfl) Try.call62 (by as_aux_lemma => kernel_rfl) (by as_aux_lemma => kernel_rfl) (by as_aux_lemma => kernel_rfl) (by as_aux_lemma => kernel_rfl) ?_
                    refine aa_takeM (fuel := 25) (listed' := #[true, true, true, true, false, false, false, false, false, false, false, false, false, false, false, false, false, false, false, false, false, false, false, false, false, false, false, false, false]) (l1 := [(1, pV 1), (5, iV s2), (6, pV 6), (36, lV 6 eLock p0.wait), (37, iV (((((p0.wait).map eLock).length : Nat) : Int))), (38, iV s2), (46, bV (!(s_l07LockOk x2)))]) [2, 3] tyOK (by as_aux_lemma => kernel_rfl) (by as_aux_lemma => kernel_rfl) (by as_aux_lemma => kernel_rfl) ?_
                    refine aa_saysM (k := 46) (t := bV (!(s_l07LockOk x2))) (t' := bV false) (l1 := [(1, pV 1), (5, iV s2), (6, pV 6), (36, lV 6 eLock p0.wait), (37, iV (((((p0.wait).map eLock).length : Nat) : Int))), (38, iV s2), (46, bV false)]) (by as_aux_lemma => kernel_rfl) (by rw [h6]) (by as_aux_lemma => kernel_rfl) ?_
                    refine aa_takeM (fuel := 20) (listed' := #[true, true, true, true, true, true, true, false, false, true, true, false, false, false, false, false, false, false, false, false, false, false, false, false, false, false, false, false, false]) (l1 := [(1, pV 1), (5, iV s2), (6, pV 6), (36, lV 6 eLock p0.wait), (37, iV (((((p0.wait).map eLock).length : Nat) : Int))), (38, iV s2), (46, bV false), (48, lV 6 eLock p0.wait), (49, iV s2), (53, .agg [.c (iC x2.tx.c), .c (iC x2.tx.e), .c (iC x2.tx.n)])]) [4, 5, 6, 9, 10] tyOK (by as_aux_lemma => kernel_rfl) (by as_aux_lemma => kernel_rfl) (by as_aux_lemma => kernel_rfl) ?_
                    refine aa_q (i := 7) (d := 50) (c := (0 ≤ (0 : Int) ∧ (0 : Int) ≤ s2 ∧ s2 ≤ (((p0.wait).map eLock).length : Int) ∧ ((p0.wait).map eLock).all (fun r => r.length == 6) = true)) (tv := .one (.c (.sl 6 ((((p0.wait).map eLock).take s2.toNat).drop (0 : Int).toNat)))) (listed' := #[true, true, true, true, true, true, true, true, false, true, true, false, false, false, false, false, false, false, false, false, false, false, false, false, false, false, false, false, false]) (st1 := mk 73 [(1, pV 1), (5, iV s2), (6, pV 6), (36, lV 6 eLock p0.wait), (37, iV (((((p0.wait).map eLock).length : Nat) : Int))), (38, iV s2), (46, bV false), (50, .one (.c (.sl 6 ((((p0.wait).map eLock).take s2.toNat).drop (0 : Int).toNat)))), (53, .agg [.c (iC x2.tx.c), .c (iC x2.tx.e), .c (iC x2.tx.n)])] [(1, [.bx [.fz (lC 6 eLock p0.held), .fz (lC 6 eLock p0.wait)]]), (6, [.bx [iC x2.tx.c, iC x2.tx.e, iC x2.tx.n, sC x2.range.lo, sC x2.range.hi, bC x2.ex]])]) [1, 5, 6, 36, 37, 38, 46, 50, 53] tyOK (by as_aux_lemma => kernel_rfl) (by as_aux_lemma => kernel_rfl) (by simpa [eLock] using c2) (by as_aux_lemma => kernel_rfl) (by as_aux_lemma => kernel_rfl) (by as_aux_lemma => kernel_rfl) ?_
                    refine aa_saysM (k := 50) (t := .one (.c (.sl 6 ((((p0.wait).map eLock).take s2.toNat).drop (0 : Int).toNat)))) (t' := lV 6 eLock (p0.wait.take ((s2).toNat))) (l1 := [(1, pV 1), (5, iV s2), (6, pV 6), (36, lV 6 eLock p0.wait), (37, iV (((((p0.wait).map eLock).length : Nat) : Int))), (38, iV s2), (46, bV false), (50, lV 6 eLock (p0.wait.take ((s2).toNat))), (53, .agg [.c (iC x2.tx.c), .c (iC x2.tx.e), .c (iC x2.tx.n)])]) (by as_aux_lemma => kernel_rfl) (by simp [List.map_take, List.map_drop]) (by as_aux_lemma => kernel_rfl) ?_
                    refine aa_all [8] (by as_aux_lemma => kernel_rfl) rfl ?_
                    refine aa_cons ?_ aa_nil
                    refine aone_anyM (listed' := #[true, true, true, true, true, true, true, true, true, true, true, false, false, false, false, false, false, false, false, false, false, false, false, false, false, false, false, false, false]) (l1 := [(1, pV 1), (5, iV s2), (6, pV 6), (36, lV 6 eLock p0.wait), (37, iV (((((p0.wait).map eLock).length : Nat) : Int))), (38, iV s2), (46, bV false), (51, .agg [.c (.v (.slice none 0 0)), .c (lC 6 eLock (p0.wait.take ((s2).toNat)))]), (53, .agg [.c (iC x2.tx.c), .c (iC x2.tx.e), .c (iC x2.tx.n)])]) tyOK (by as_aux_lemma => kernel_rfl) (by as_aux_lemma => kernel_rfl) ?_
                    refine aa_all [11] (by as_aux_lemma => kernel_rfl) rfl ?_
                    refine aa_cons ?_ aa_nil
                    refine aone_lend (listed' := #[true, true, true, true, true, true, true, true, true, true, true, true, false, false, false, false, false, false, false, false, false, false, false, false, false, false, false, false, false]) (f := 63) (d := 54) (A := [.agg [.c (.v (.slice none 0 0)), .c (lC 6 eLock (p0.wait.take ((s2).toNat)))], .agg [.c (iC x2.tx.c), .c (iC x2.tx.e), .c (iC x2.tx.n)]]) (A' := [.agg [.c (.sl 6 ([])), .c (lC 6 eLock (p0.wait.take ((s2).toNat)))], .agg [.c (iC x2.tx.c), .c (iC x2.tx.e), .c (iC x2.tx.n)]]) (st1 := mk 73 [(1, pV 1), (5, iV s2), (6, pV 6), (36, lV 6 eLock p0.wait), (37, iV (((((p0.wait).map eLock).length : Nat) : Int))), (38, iV s2), (46, bV false), (54, bV r2)] [(1, [.bx [.fz (lC 6 eLock p0.held), .fz (lC 6 eLock p0.wait)]]), (6, [.bx [iC x2.tx.c, iC x2.tx.e, iC x2.tx.n, sC x2.range.lo, sC x2.range.hi, bC x2.ex]])]) [1, 5, 6, 36, 37, 38, 46, 54] (k_s_l07Waits ((⟨[], p0.wait.take ((s2).toNat)⟩ : Locks)) x2.tx r2 er2) Try.call63 (by as_aux_lemma => kernel_rfl) (.cons (.agg (.cons .nilv (.cons (.same rfl) .nil))) (.cons (.agg (.cons (.same rfl) (.cons (.same rfl) (.cons (.same rfl) .nil)))) .nil)) (by as_aux_lemma => kernel_rfl) (clean_nil) (by as_aux_lemma => kernel_rfl) (by as_aux_lemma => kernel_rfl) (by as_aux_lemma => kernel_rfl) ?_
                    refine aa_takeM (fuel := 15) (listed' := #[true, true, true, true, true, true, true, true, true, true, true, true, true, true, false, false, false, false, false, false, false, false, false, false, false, false, false, false, false]) (l1 := [(1, pV 1), (5, iV s2), (6, pV 6), (36, lV 6 eLock p0.wait), (37, iV (((((p0.wait).map eLock).length : Nat) : Int))), (38, iV s2), (56, bV r2)]) [12, 13] tyOK (by as_aux_lemma => kernel_rfl) (by as_aux_lemma => kernel_rfl) (by as_aux_lemma => kernel_rfl) ?_
                    refine aa_saysM (k := 56) (t := bV r2) (t' := bV false) (l1 := [(1, pV 1), (5, iV s2), (6, pV 6), (36, lV 6 eLock p0.wait), (37, iV (((((p0.wait).map eLock).length : Nat) : Int))), (38, iV s2), (56, bV false)]) (by as_aux_lemma => kernel_rfl) (by rw [h7]) (by as_aux_lemma => kernel_rfl) ?_
                    refine aa_takeM (fuel := 12) (listed' := #[true, true, true, true, true, true, true, true, true, true, true, true, true, true, true, true, true, false, false, false, false, false, false, false, false, false, false, false, false]) (l1 := [(1, pV 1), (5, iV s2), (6, pV 6), (36, lV 6 eLock p0.wait), (37, iV (((((p0.wait).map eLock).length : Nat) : Int))), (38, iV s2), (56, bV false), (58, lV 6 eLock p0.held), (59, .agg [.c (iC x2.tx.c), .c (iC x2.tx.e), .c (iC x2.tx.n), .c (sC x2.range.lo), .c (sC x2.range.hi), .c (bC x2.ex)])]) [14, 15, 16] tyOK (by as_aux_lemma => kernel_rfl) (by as_aux_lemma => kernel_rfl) (by as_aux_lemma => kernel_rfl) ?_
                    refine aa_all [17] (by as_aux_lemma => kernel_rfl) rfl ?_
                    refine aa_cons ?_ aa_nil
                    refine aone_enterM (listed' := #[true, true, true, true, true, true, true, true, true, true, true, true, true, true, true, true, true, true, false, false, false, false, false, false, false, false, false, false, false]) (f := 65) (d := 60) (A := [lV 6 eLock p0.held, .agg [.c (iC x2.tx.c), .c (iC x2.tx.e), .c (iC x2.tx.n), .c (sC x2.range.lo), .c (sC x2.range.hi), .c (bC x2.ex)]]) (l1 := [(1, pV 1), (5, iV s2), (6, pV 6), (36, lV 6 eLock p0.wait), (37, iV (((((p0.wait).map eLock).length : Nat) : Int))), (38, iV s2), (56, bV false), (60, bV r3)]) (k_s_l07Any p0.held x2 r3 er3) Try.call65 (by as_aux_lemma => kernel_rfl) (by as_aux_lemma => kernel_rfl) (by as_aux_lemma => kernel_rfl) (by as_aux_lemma => kernel_rfl) ?_
                    refine aa_takeM (fuel := 9) (listed' := #[true, true, true, true, true, true, true, true, true, true, true, true, true, true, true, true, true, true, true, true, false, false, false, false, false, false, false, false, false]) (l1 := [(1, pV 1), (5, iV s2), (6, pV 6), (36, lV 6 eLock p0.wait), (37, iV (((((p0.wait).map eLock).length : Nat) : Int))), (38, iV s2), (56, bV false), (62, bV (!r3))]) [18, 19] tyOK (by as_aux_lemma => kernel_rfl) (by as_aux_lemma => kernel_rfl) (by as_aux_lemma => kernel_rfl) ?_
                    refine aa_saysM (k := 62) (t := bV (!r3)) (t' := bV true) (l1 := [(1, pV 1), (5, iV s2), (6, pV 6), (36, lV 6 eLock p0.wait), (37, iV (((((p0.wait).map eLock).length : Nat) : Int))), (38, iV s2), (56, bV false), (62, bV true)]) (by as_aux_lemma => kernel_rfl) (by rw [h8]) (by as_aux_lemma => kernel_rfl) ?_
                    refine aa_take (fuel := 5) (listed' := #[true, true, true, true, true, true, true, true, true, true, true, true, true, true, true, true, true, true, true, true, true, true, true, false, true, false, false, false, false]) (st' := mk 73 [(1, pV 1), (36, lV 6 eLock p0.wait), (37, iV (((((p0.wait).map eLock).length : Nat) : Int))), (38, iV s2), (56, bV false), (62, bV true), (64, lV 6 eLock p0.wait), (65, iV s2), (67, .agg [.c (iC x2.tx.c), .c (iC x2.tx.e), .c (iC x2.tx.n), .c (sC x2.range.lo), .c (sC x2.range.hi), .c (bC x2.ex)])] [(1, [.bx [.fz (lC 6 eLock p0.held), .fz (lC 6 eLock p0.wait)]])]) [20, 21, 22, 24] [1, 36, 37, 38, 56, 62, 64, 65, 67] tyOK (by as_aux_lemma => kernel_rfl) (by as_aux_lemma => kernel_rfl) (by as_aux_lemma => kernel_rfl) ?_
                    refine aa_q (i := 23) (d := 66) (c := (0 ≤ (0 : Int) ∧ (0 : Int) ≤ s2 ∧ s2 ≤ (((p0.wait).map eLock).length : Int) ∧ ((p0.wait).map eLock).all (fun r => r.length == 6) = true)) (tv := .one (.c (.sl 6 ((((p0.wait).map eLock).take s2.toNat).drop (0 : Int).toNat)))) (listed' := #[true, true, true, true, true, true, true, true, true, true, true, true, true, true, true, true, true, true, true, true, true, true, true, true, true, false, false, false, false]) (st1 := mk 73 [(1, pV 1), (36, lV 6 eLock p0.wait), (37, iV (((((p0.wait).map eLock).length : Nat) : Int))), (38, iV s2), (56, bV false), (62, bV true), (66, .one (.c (.sl 6 ((((p0.wait).map eLock).take s2.toNat).drop (0 : Int).toNat)))), (67, .agg [.c (iC x2.tx.c), .c (iC x2.tx.e), .c (iC x2.tx.n), .c (sC x2.range.lo), .c (sC x2.range.hi), .c (bC x2.ex)])] [(1, [.bx [.fz (lC 6 eLock p0.held), .fz (lC 6 eLock p0.wait)]])]) [1, 36, 37, 38, 56, 62, 66, 67] tyOK (by as_aux_lemma => kernel_rfl) (by as_aux_lemma => kernel_rfl) (by simpa [eLock] using c3) (by as_aux_lemma => kernel_rfl) (by as_aux_lemma => kernel_rfl) (by as_aux_lemma => kernel_rfl) ?_
                    refine aa_saysM (k := 66) (t := .one (.c (.sl 6 ((((p0.wait).map eLock).take s2.toNat).drop (0 : Int).toNat)))) (t' := lV 6 eLock (p0.wait.take ((s2).toNat))) (l1 := [(1, pV 1), (36, lV 6 eLock p0.wait), (37, iV (((((p0.wait).map eLock).length : Nat) : Int))), (38, iV s2), (56, bV false), (62, bV true), (66, lV 6 eLock (p0.wait.take ((s2).toNat))), (67, .agg [.c (iC x2.tx.c), .c (iC x2.tx.e), .c (iC x2.tx.n), .c (sC x2.range.lo), .c (sC x2.range.hi), .c (bC x2.ex)])]) (by as_aux_lemma => kernel_rfl) (by simp [List.map_take, List.map_drop]) (by as_aux_lemma => kernel_rfl) ?_
                    refine aa_all [25] (by as_aux_lemma => kernel_rfl) rfl ?_
                    refine aa_cons ?_ aa_nil
                    refine aone_enterM (listed' := #[true, true, true, true, true, true, true, true, true, true, true, true, true, true, true, true, true, true, true, true, true, true, true, true, true, true, false, false, false]) (f := 65) (d := 68) (A := [lV 6 eLock (p0.wait.take ((s2).toNat)), .agg [.c (iC x2.tx.c), .c (iC x2.tx.e), .c (iC x2.tx.n), .c (sC x2.range.lo), .c (sC x2.range.hi), .c (bC x2.ex)]]) (l1 := [(1, pV 1), (36, lV 6 eLock p0.wait), (37, iV (((((p0.wait).map eLock).length : Nat) : Int))), (38, iV s2), (56, bV false), (62, bV true), (68, bV r4)]) (k_s_l07Any (p0.wait.take ((s2).toNat)) x2 r4 er4) Try.call65 (by as_aux_lemma => kernel_rfl) (by as_aux_lemma => kernel_rfl) (by as_aux_lemma => kernel_rfl) (by as_aux_lemma => kernel_rfl) ?_
                    refine aa_takeM (fuel := 0) (listed' := #[true, true, true, true, true, true, true, true, true, true, true, true, true, true, true, true, true, true, true, true, true, true, true, true, true, true, true, true, true]) (l1 := [(1, pV 1), (36, lV 6 eLock p0.wait), (37, iV (((((p0.wait).map eLock).length : Nat) : Int))), (38, iV s2), (71, bV (!r4))]) [26, 27, 28] tyOK (by as_aux_lemma => kernel_rfl) (by as_aux_lemma => kernel_rfl) (by as_aux_lemma => kernel_rfl) ?_
                    refine aa_done (by as_aux_lemma => kernel_rfl) ?_
                    show _ = _; kernel_rfl
                  obtain rfl := Option.some.inj h
                  show ∃ _, _ ∧ Imp _ _ _
                  refine ⟨_, rfl, ?_⟩
                  exact imp_keepTo [1, 36, 37, 38, 71] (by as_aux_lemma => kernel_rfl) (imp_done rfl)
                · replace h := cF h8 h
                  refine a_mid (mk 73 [(1, pV 1), (36, lV 6 eLock p0.wait), (37, iV (((((p0.wait).map eLock).length : Nat) : Int))), (38, iV s2), (71, bV false)] [(1, [.bx [.fz (lC 6 eLock p0.held), .fz (lC 6 eLock p0.wait)]])]) ?_ ?_
                  · refine a_drawn (n := 29) [] (by as_aux_lemma => kernel_rfl) (by as_aux_lemma => kernel_rfl) ?_
                    refine aa_take (fuel := 28) (listed' := #[true, false, false, false, false, false, false, false, false, false, false, false, false, false, false, false, false, false, false, false, false, false, false, false, false, false, false, false, false]) (st' := mk 73 [(1, pV 1), (5, iV s2), (6, pV 6), (36, lV 6 eLock p0.wait), (37, iV (((((p0.wait).map eLock).length : Nat) : Int))), (38, iV s2), (43, .agg [.c (iC x2.tx.c), .c (iC x2.tx.e), .c (iC x2.tx.n), .c (sC x2.range.lo), .c (sC x2.range.hi), .c (bC x2.ex)])] [(1, [.bx [.fz (lC 6 eLock p0.held), .fz (lC 6 eLock p0.wait)]]), (6, [.bx [iC x2.tx.c, iC x2.tx.e, iC x2.tx.n, sC x2.range.lo, sC x2.range.hi, bC x2.ex]])]) [0] [1, 5, 6, 36, 37, 38, 43] tyOK (by as_aux_lemma => kernel_rfl) (by as_aux_lemma => kernel_rfl) (by as_aux_lemma => kernel_rfl) ?_
                    refine aa_all [1] (by as_aux_lemma => kernel_rfl) rfl ?_
                    refine aa_cons ?_ aa_nil
                    refine aone_enterM (listed' := #[true, true, false, false, false, false, false, false, false, false, false, false, false, false, false, false, false, false, false, false, false, false, false, false, false, false, false, false, false]) (f := 62) (d := 44) (A := [.agg [.c (iC x2.tx.c), .c (iC x2.tx.e), .c (iC x2.tx.n), .c (sC x2.range.lo), .c (sC x2.range.hi), .c (bC x2.ex)]]) (l1 := [(1, pV 1), (5, iV s2), (6, pV 6), (36, lV 6 eLock p0.wait), (37, iV (((((p0.wait).map eLock).length : Nat) : Int))), (38, iV s2), (44, bV (s_l07LockOk x2))]) (k_s_l07LockOk x2 _ rfl) Try.call62 (by as_aux_lemma => kernel_rfl) (by as_aux_lemma => kernel_rfl) (by as_aux_lemma => kernel_rfl) (by as_aux_lemma => kernel_rfl) ?_
                    refine aa_takeM (fuel := 25) (listed' := #[true, true, true, true, false, false, false, false, false, false, false, false, false, false, false, false, false, false, false, false, false, false, false, false, false, false, false, false, false]) (l1 := [(1, pV 1), (5, iV s2), (6, pV 6), (36, lV 6 eLock p0.wait), (37, iV (((((p0.wait).map eLock).length : Nat) : Int))), (38, iV s2), (46, bV (!(s_l07LockOk x2)))]) [2, 3] tyOK (by as_aux_lemma => kernel_rfl) (by as_aux_lemma => kernel_rfl) (by as_aux_lemma => kernel_rfl) ?_
                    refine aa_saysM (k := 46) (t := bV (!(s_l07LockOk x2))) (t' := bV false) (l1 := [(1, pV 1), (5, iV s2), (6, pV 6), (36, lV 6 eLock p0.wait), (37, iV (((((p0.wait).map eLock).length : Nat) : Int))), (38, iV s2), (46, bV false)]) (by as_aux_lemma => kernel_rfl) (by rw [h6]) (by as_aux_lemma => kernel_rfl) ?_
                    refine aa_takeM (fuel := 20) (listed' := #[true, true, true, true, true, true, true, false, false, true, true, false, false, false, false, false, false, false, false, false, false, false, false, false, false, false, false, false, false]) (l1 := [(1, pV 1), (5, iV s2), (6, pV 6), (36, lV 6 eLock p0.wait), (37, iV (((((p0.wait).map eLock).length : Nat) : Int))), (38, iV s2), (46, bV false), (48, lV 6 eLock p0.wait), (49, iV s2), (53, .agg [.c (iC x2.tx.c), .c (iC x2.tx.e), .c (iC x2.tx.n)])]) [4, 5, 6, 9, 10] tyOK (by as_aux_lemma => kernel_rfl) (by as_aux_lemma => kernel_rfl) (by as_aux_lemma => kernel_rfl) ?_
                    refine aa_q (i := 7) (d := 50) (c := (0 ≤ (0 : Int) ∧ (0 : Int) ≤ s2 ∧ s2 ≤ (((p0.wait).map eLock).length : Int) ∧ ((p0.wait).map eLock).all (fun r => r.length == 6) = true)) (tv := .one (.c (.sl 6 ((((p0.wait).map eLock).take s2.toNat).drop (0 : Int).toNat)))) (listed' := #[true, true, true, true, true, true, true, true, false, true, true, false, false, false, false, false, false, false, false, false, false, false, false, false, false, false, false, false, false]) (st1 := mk 73 [(1, pV 1), (5, iV s2), (6, pV 6), (36, lV 6 eLock p0.wait), (37, iV (((((p0.wait).map eLock).length : Nat) : Int))), (38, iV s2), (46, bV false), (50, .one (.c (.sl 6 ((((p0.wait).map eLock).take s2.toNat).drop (0 : Int).toNat)))), (53, .agg [.c (iC x2.tx.c), .c (iC x2.tx.e), .c (iC x2.tx.n)])] [(1, [.bx [.fz (lC 6 eLock p0.held), .fz (lC 6 eLock p0.wait)]]), (6, [.bx [iC x2.tx.c, iC x2.tx.e, iC x2.tx.n, sC x2.range.lo, sC x2.range.hi, bC x2.ex]])]) [1, 5, 6, 36, 37, 38, 46, 50, 53] tyOK (by as_aux_lemma => kernel_rfl) (by as_aux_lemma => kernel_rfl) (by simpa [eLock] using c2) (by as_aux_lemma => kernel_rfl) (by as_aux_lemma => kernel_rfl) (by as_aux_lemma => kernel_rfl) ?_
                    refine aa_saysM (k := 50) (t := .one (.c (.sl 6 ((((p0.wait).map eLock).take s2.toNat).drop (0 : Int).toNat)))) (t' := lV 6 eLock (p0.wait.take ((s2).toNat))) (l1 := [(1, pV 1), (5, iV s2), (6, pV 6), (36, lV 6 eLock p0.wait), (37, iV (((((p0.wait).map eLock).length : Nat) : Int))), (38, iV s2), (46, bV false), (50, lV 6 eLock (p0.wait.take ((s2).toNat))), (53, .agg [.c (iC x2.tx.c), .c (iC x2.tx.e), .c (iC x2.tx.n)])]) (by as_aux_lemma => kernel_rfl) (by simp [List.map_take, List.map_drop]) (by as_aux_lemma => kernel_rfl) ?_
                    refine aa_all [8] (by as_aux_lemma => kernel_rfl) rfl ?_
                    refine aa_cons ?_ aa_nil
                    refine aone_anyM (listed' := #[true, true, true, true, true, true, true, true, true, true, true, false, false, false, false, false, false, false, false, false, false, false, false, false, false, false, false, false, false]) (l1 := [(1, pV 1), (5, iV s2), (6, pV 6), (36, lV 6 eLock p0.wait), (37, iV (((((p0.wait).map eLock).length : Nat) : Int))), (38, iV s2), (46, bV false), (51, .agg [.c (.v (.slice none 0 0)), .c (lC 6 eLock (p0.wait.take ((s2).toNat)))]), (53, .agg [.c (iC x2.tx.c), .c (iC x2.tx.e), .c (iC x2.tx.n)])]) tyOK (by as_aux_lemma => kernel_rfl) (by as_aux_lemma => kernel_rfl) ?_
                    refine aa_all [11] (by as_aux_lemma => kernel_rfl) rfl ?_
                    refine aa_cons ?_ aa_nil
                    refine aone_lend (listed' := #[true, true, true, true, true, true, true, true, true, true, true, true, false, false, false, false, false, false, false, false, false, false, false, false, false, false, false, false, false]) (f := 63) (d := 54) (A := [.agg [.c (.v (.slice none 0 0)), .c (lC 6 eLock (p0.wait.take ((s2).toNat)))], .agg [.c (iC x2.tx.c), .c (iC x2.tx.e), .c (iC x2.tx.n)]]) (A' := [.agg [.c (.sl 6 ([])), .c (lC 6 eLock (p0.wait.take ((s2).toNat)))], .agg [.c (iC x2.tx.c), .c (iC x2.tx.e), .c (iC x2.tx.n)]]) (st1 := mk 73 [(1, pV 1), (5, iV s2), (6, pV 6), (36, lV 6 eLock p0.wait), (37, iV (((((p0.wait).map eLock).length : Nat) : Int))), (38, iV s2), (46, bV false), (54, bV r2)] [(1, [.bx [.fz (lC 6 eLock p0.held), .fz (lC 6 eLock p0.wait)]]), (6, [.bx [iC x2.tx.c, iC x2.tx.e, iC x2.tx.n, sC x2.range.lo, sC x2.range.hi, bC x2.ex]])]) [1, 5, 6, 36, 37, 38, 46, 54] (k_s_l07Waits ((⟨[], p0.wait.take ((s2).toNat)⟩ : Locks)) x2.tx r2 er2) Try.call63 (by as_aux_lemma => kernel_rfl) (.cons (.agg (.cons .nilv (.cons (.same rfl) .nil))) (.cons (.agg (.cons (.same rfl) (.cons (.same rfl) (.cons (.same rfl) .nil)))) .nil)) (by as_aux_lemma => kernel_rfl) (clean_nil) (by as_aux_lemma => kernel_rfl) (by as_aux_lemma => kernel_rfl) (by as_aux_lemma => kernel_rfl) ?_
                    refine aa_takeM (fuel := 15) (listed' := #[true, true, true, true, true, true, true, true, true, true, true, true, true, true, false, false, false, false, false, false, false, false, false, false, false, false, false, false, false]) (l1 := [(1, pV 1), (5, iV s2), (6, pV 6), (36, lV 6 eLock p0.wait), (37, iV (((((p0.wait).map eLock).length : Nat) : Int))), (38, iV s2), (56, bV r2)]) [12, 13] tyOK (by as_aux_lemma => kernel_rfl) (by as_aux_lemma => kernel_rfl) (by as_aux_lemma => kernel_rfl) ?_
                    refine aa_saysM (k := 56) (t := bV r2) (t' := bV false) (l1 := [(1, pV 1), (5, iV s2), (6, pV 6), (36, lV 6 eLock p0.wait), (37, iV (((((p0.wait).map eLock).length : Nat) : Int))), (38, iV s2), (56, bV false)]) (by as_aux_lemma => kernel_rfl) (by rw [h7]) (by as_aux_lemma => kernel_rfl) ?_
                    refine aa_takeM (fuel := 12) (listed' := #[true, true, true, true, true, true, true, true, true, true, true, true, true, true, true, true, true, false, false, false, false, false, false, false, false, false, false, false, false]) (l1 := [(1, pV 1), (5, iV s2), (6, pV 6), (36, lV 6 eLock p0.wait), (37, iV (((((p0.wait).map eLock).length : Nat) : Int))), (38, iV s2), (56, bV false), (58, lV 6 eLock p0.held), (59, .agg [.c (iC x2.tx.c), .c (iC x2.tx.e), .c (iC x2.tx.n), .c (sC x2.range.lo), .c (sC x2.range.hi), .c (bC x2.ex)])]) [14, 15, 16] tyOK (by as_aux_lemma => kernel_rfl) (by as_aux_lemma => kernel_rfl) (by as_aux_lemma => kernel_rfl) ?_
                    refine aa_all [17] (by as_aux_lemma => kernel_rfl) rfl ?_
                    refine aa_cons ?_ aa_nil
                    refine aone_enterM (listed' := #[true, true, true, true, true, true, true, true, true, true, true, true, true, true, true, true, true, true, false, false, false, false, false, false, false, false, false, false, false]) (f := 65) (d := 60) (A := [lV 6 eLock p0.held, .agg [.c (iC x2.tx.c), .c (iC x2.tx.e), .c (iC x2.tx.n), .c (sC x2.range.lo), .c (sC x2.range.hi), .c (bC x2.ex)]]) (l1 := [(1, pV 1), (5, iV s2), (6, pV 6), (36, lV 6 eLock p0.wait), (37, iV (((((p0.wait).map eLock).length : Nat) : Int))), (38, iV s2), (56, bV false), (60, bV r3)]) (k_s_l07Any p0.held x2 r3 er3) Try.call65 (by as_aux_lemma => kernel_rfl) (by as_aux_lemma => kernel_rfl) (by as_aux_lemma => kernel_rfl) (by as_aux_lemma => kernel_rfl) ?_
                    refine aa_takeM (fuel := 9) (listed' := #[true, true, true, true, true, true, true, true, true, true, true, true, true, true, true, true, true, true, true, true, false, false, false, false, false, false, false, false, false]) (l1 := [(1, pV 1), (5, iV s2), (6, pV 6), (36, lV 6 eLock p0.wait), (37, iV (((((p0.wait).map eLock).length : Nat) : Int))), (38, iV s2), (56, bV false), (62, bV (!r3))]) [18, 19] tyOK (by as_aux_lemma => kernel_rfl) (by as_aux_lemma => kernel_rfl) (by as_aux_lemma => kernel_rfl) ?_
                    refine aa_saysM (k := 62) (t := bV (!r3)) (t' := bV false) (l1 := [(1, pV 1), (5, iV s2), (6, pV 6), (36, lV 6 eLock p0.wait), (37, iV (((((p0.wait).map eLock).length : Nat) : Int))), (38, iV s2), (56, bV false), (62, bV false)]) (by as_aux_lemma => kernel_rfl) (by rw [h8]) (by as_aux_lemma => kernel_rfl) ?_
                    refine aa_take (fuel := 4) (listed' := #[true, true, true, true, true, true, true, true, true, true, true, true, true, true, true, true, true, true, true, true, true, true, true, true, true, false, false, false, false]) (st' := mk 73 [(1, pV 1), (36, lV 6 eLock p0.wait), (37, iV (((((p0.wait).map eLock).length : Nat) : Int))), (38, iV s2), (56, bV false), (62, bV false), (66, .tup []), (67, .tup [])] [(1, [.bx [.fz (lC 6 eLock p0.held), .fz (lC 6 eLock p0.wait)]])]) [20, 21, 22, 23, 24] [1, 36, 37, 38, 56, 62, 66, 67] tyOK (by as_aux_lemma => kernel_rfl) (by as_aux_lemma => kernel_rfl) (by as_aux_lemma => kernel_rfl) ?_
                    refine aa_all [25] (by as_aux_lemma => kernel_rfl) rfl ?_
                    refine aa_cons ?_ aa_nil
                    refine aone_anyM (listed' := #[true, true, true, true, true, true, true, true, true, true, true, true, true, true, true, true, true, true, true, true, true, true, true, true, true, true, false, false, false]) (l1 := [(1, pV 1), (36, lV 6 eLock p0.wait), (37, iV (((((p0.wait).map eLock).length : Nat) : Int))), (38, iV s2), (56, bV false), (62, bV false), (68, .tup [])]) tyOK (by as_aux_lemma => kernel_rfl) (by as_aux_lemma => kernel_rfl) ?_
                    refine aa_takeM (fuel := 0) (listed' := #[true, true, true, true, true, true, true, true, true, true, true, true, true, true, true, true, true, true, true, true, true, true, true, true, true, true, true, true, true]) (l1 := [(1, pV 1), (36, lV 6 eLock p0.wait), (37, iV (((((p0.wait).map eLock).length : Nat) : Int))), (38, iV s2), (71, bV false)]) [26, 27, 28] tyOK (by as_aux_lemma => kernel_rfl) (by as_aux_lemma => kernel_rfl) (by as_aux_lemma => kernel_rfl) ?_
                    refine aa_done (by as_aux_lemma => kernel_rfl) ?_
                    show _ = _; kernel_rfl
                  obtain rfl := Option.some.inj h
                  show ∃ _, _ ∧ Imp _ _ _
                  refine ⟨_, rfl, ?_⟩
                  exact imp_keepTo [1, 36, 37, 38, 71] (by as_aux_lemma => kernel_rfl) (imp_done rfl)
          intro j3 hj3
          replace h := ky6 _ hj3
          refine a_cond (b := j3) (by as_aux_lemma => kernel_rfl) (fun h9 => ?_) (fun h9 => ?_)
          · replace h := cT h9 h
            refine a_seq ?_
            refine a_run [2] tyOK (st1 := mk 73 [(2, bV false)] []) (by as_aux_lemma => kernel_rfl) ?_
            refine a_ret ?_
            obtain rfl := Option.some.inj h
            obtain rfl := zy5 _ rfl
            obtain rfl := zy4 _ rfl
            exact end_eq (res' := bV false) (by as_aux_lemma => kernel_rfl) (by first | rfl | simp)
          · replace h := cF h9 h
            refine a_skip ?_
            refine a_run [1, 36, 37, 38] tyOK (st1 := mk 73 [(1, pV 1), (36, lV 6 eLock p0.wait), (37, iV (((((p0.wait).map eLock).length : Nat) : Int))), (38, iV (IntKind.wrap .i64 (s2 + 1)))] [(1, [.bx [.fz (lC 6 eLock p0.held), .fz (lC 6 eLock p0.wait)]])]) (by as_aux_lemma => kernel_rfl) ?_
            obtain rfl := Option.some.inj h
            show ∃ _, _ ∧ Imp _ _ _
            refine ⟨_, rfl, ?_⟩
            exact imp_keepTo [1, 36, 37, 38] (by as_aux_lemma => kernel_rfl) (imp_done rfl)
        · replace h := cF h5 h
          refine a_exit ?_
          obtain rfl := Option.some.inj h
          obtain rfl := zy5 _ rfl
          show ∃ _, _ ∧ Imp _ _ _
          refine ⟨_, rfl, ?_⟩
          exact imp_keepTo [] (by as_aux_lemma => kernel_rfl) (imp_done rfl)
      intro j4 hj4
      replace h := ky4 _ hj4
      refine a_seq ?_
      refine a_run [2] tyOK (st1 := mk 73 [(2, bV true)] []) (by as_aux_lemma => kernel_rfl) ?_
      refine a_ret ?_
      obtain rfl := Option.some.inj h
      exact end_eq (res' := bV true) (by as_aux_lemma => kernel_rfl) (by first | rfl | simp)


end Go.Proofs.Ytagoajkiccgmjaa
namespace Go.Proofs.Ytagoajkiccgmjaa
open Go.Mv Go.RowKit
structure Ss_LockFree_1 where
  v20 : Int
  w6_0_0 : (List Lock)

noncomputable def Bs_LockFree_1 (p0 : Locks) (p1 : Tx) (s1 : Ss_LockFree_1) : Option (Ss_LockFree_1 ⊕ (List Lock)) :=
 bif (decide (s1.v20 < (((((p0.held).map eLock).length : Nat) : Int)))) then
 (bnd (getI p0.held s1.v20) fun x1 =>
 bnd (bif (!((x1.tx.c == p1.c) && ((x1.tx.e == p1.e) && ((x1.tx.n == p1.n) && true)))) then
 (chk (((s1.w6_0_0).length + (([x1] : List Lock)).length) * 64 ≤ 140737488355328) <|
 some (s1.w6_0_0 ++ ([x1] : List Lock)))
 else
 (some s1.w6_0_0)) fun j1 =>
 some (.inl ((⟨IntKind.wrap .i64 (s1.v20 + 1), j1⟩ : Ss_LockFree_1))))
 else
 (some (.inr s1.w6_0_0))

structure Xs_LockFree_3 where
  v9 : (List Lock)
  w6_0_0 : (List Lock)
  w6_0_1 : (List Lock)

structure Ss_LockFree_2 where
  v9 : (List Lock)
  v39 : Int
  w6_0_0 : (List Lock)
  w6_0_1 : (List Lock)

structure Xs_LockFree_4 where
  v9 : (List Lock)
  w6_0_0 : (List Lock)
  w6_0_1 : (List Lock)

structure Xs_LockFree_6 where
  v9 : (List Lock)
  w6_0_0 : (List Lock)
  w6_0_1 : (List Lock)

noncomputable def Bs_LockFree_2 (p0 : Locks) (p1 : Tx) (s2 : Ss_LockFree_2) : Option (Ss_LockFree_2 ⊕ Xs_LockFree_3) :=
 bif (decide (s2.v39 < (((((p0.wait).map eLock).length : Nat) : Int)))) then
 (bnd (bnd (getI p0.wait s2.v39) fun x2 =>
 bif (((x2.tx.c == p1.c) && ((x2.tx.e == p1.e) && ((x2.tx.n == p1.n) && true)))) then
 (some ((⟨s2.v9, s2.w6_0_0, s2.w6_0_1⟩ : Xs_LockFree_4)))
 else
 (bnd (bnd (s_l07Any s2.w6_0_0 x2) fun r2 =>
 bif r2 then
 (some true)
 else
 (bnd (s_l07Any s2.w6_0_1 x2) fun r3 =>
 some r3)) fun j3 =>
 bnd (bif j3 then
 (chk (((s2.w6_0_1).length + (([x2] : List Lock)).length) * 64 ≤ 140737488355328) <|
 some ((⟨s2.v9, s2.w6_0_0, s2.w6_0_1 ++ ([x2] : List Lock)⟩ : Xs_LockFree_6)))
 else
 (chk (((s2.w6_0_0).length + (([x2] : List Lock)).length) * 64 ≤ 140737488355328) <|
 chk (((s2.v9).length + (([x2] : List Lock)).length) * 64 ≤ 140737488355328) <|
 some ((⟨s2.v9 ++ ([x2] : List Lock), s2.w6_0_0 ++ ([x2] : List Lock), s2.w6_0_1⟩ : Xs_LockFree_6)))) fun j4 =>
 some ((⟨j4.v9, j4.w6_0_0, j4.w6_0_1⟩ : Xs_LockFree_4)))) fun j5 =>
 some (.inl ((⟨j5.v9, IntKind.wrap .i64 (s2.v39 + 1), j5.w6_0_0, j5.w6_0_1⟩ : Ss_LockFree_2))))
 else
 (some (.inr ((⟨s2.v9, s2.w6_0_0, s2.w6_0_1⟩ : Xs_LockFree_3))))

noncomputable def s_LockFree (p0 : Locks) (p1 : Tx) : Option (Locks × (List Lock)) :=
 bnd (s_LocksOk p0) fun r1 =>
 bif (!r1) then
 (some (((⟨[], []⟩ : Locks), [])))
 else
 (bnd (loopT (Bs_LockFree_1 p0 p1) ((⟨0, ([] : List Lock)⟩ : Ss_LockFree_1))) fun j2 =>
 bnd (loopT (Bs_LockFree_2 p0 p1) ((⟨[], 0, j2, ([] : List Lock)⟩ : Ss_LockFree_2))) fun j6 =>
 some (((⟨j6.w6_0_0, j6.w6_0_1⟩ : Locks), j6.v9)))
set_option maxHeartbeats 4000000 in
/-- spec.LockFree -/
theorem k_s_LockFree (p0 : Locks) (p1 : Tx) (v : Locks × (List Lock)) (h : s_LockFree p0 p1 = some v) : CallOK Try.prog 127 [.agg [.c (lC 6 eLock p0.held), .c (lC 6 eLock p0.wait)], .agg [.c (iC p1.c), .c (iC p1.e), .c (iC p1.n)]] (.tup [.agg [.so [] 0 0 ((v.1.held).length), .so [] 0 1 ((v.1.wait).length)], .one (.so [] 0 2 ((v.2).length))]) [lC 6 eLock v.1.held, lC 6 eLock v.1.wait, lC 6 eLock v.2] :=
  callOK tyOK Try.func127 rfl fun w S hS => by
    unfold s_LockFree at h
    refine a_seq ?_
    refine a_run [2, 3, 4] tyOK (st1 := mk 76 [(2, pV 2), (3, pV 3), (4, pV 4)] [(2, [.bx [.fz (lC 6 eLock p0.held), .fz (lC 6 eLock p0.wait)]]), (3, [.bx [iC p1.c, iC p1.e, iC p1.n]]), (4, [.bx [.sl 6 ([]), .sl 6 ([])]])]) (by kernel_rfl) ?_
    refine a_seq ?_
    refine a_seq ?_
    refine a_ops [0, 1, 2] (by kernel_rfl) ?_
    refine ao_someM [0] [1, 2] tyOK (l1 := [(2, pV 2), (3, pV 3), (4, pV 4), (12, .agg [.c (lC 6 eLock p0.held), .c (lC 6 eLock p0.wait)])]) (by kernel_rfl) ?_
    obtain ⟨r1, er1, h⟩ := bnd_e h
    refine ao_enterM (f := 61) (d := 13) (A := [.agg [.c (lC 6 eLock p0.held), .c (lC 6 eLock p0.wait)]]) (l1 := [(2, pV 2), (3, pV 3), (4, pV 4), (13, bV r1)]) (k_s_LocksOk p0 r1 er1) Try.call61 (by kernel_rfl) (by kernel_rfl) (by kernel_rfl) ?_
    refine ao_someM [2] [] tyOK (l1 := [(2, pV 2), (3, pV 3), (4, pV 4), (14, bV (!r1))]) (by kernel_rfl) ?_
    refine ao_nil ?_
    refine a_cond (b := !r1) (by kernel_rfl) (fun h1 => ?_) (fun h1 => ?_)
    · replace h := cT h1 h
      refine a_seq ?_
      refine a_run [4, 5] tyOK (st1 := mk 76 [(4, pV 4), (5, .one (.c (.v (.slice none 0 0))))] [(4, [.bx [.sl 6 ([]), .sl 6 ([])]])]) (by kernel_rfl) ?_
      refine a_Imp (imp_nilOwn 5 5 6 [4, 5] (s1 := mk 76 [(4, pV 4), (5, .one (.so [] 5 0 0))] [(4, [.bx [.sl 6 ([]), .sl 6 ([])]]), (5, [.sl 6 ([])])]) (by kernel_rfl) (imp_done rfl)) ?_
      refine a_ret ?_
      obtain rfl := Option.some.inj h
      exact end_own (ob := [(0, 0), (0, 0), (0, 0)]) (res' := .tup [.agg [.so [] 0 0 0, .so [] 0 1 0], .one (.so [] 0 2 0)]) (row' := [.sl 6 ([]), .sl 6 ([]), .sl 6 ([])]) (by kernel_rfl) ⟨by simp, by simp, by simp, trivial⟩ (by first | rfl | simp) (by first | rfl | simp)
    · replace h := cF h1 h
      refine a_skip ?_
      refine a_seq ?_
      refine a_run [2, 3, 4, 6] tyOK (st1 := mk 76 [(2, pV 2), (3, pV 3), (4, pV 4), (6, pV 6)] [(2, [.bx [.fz (lC 6 eLock p0.held), .fz (lC 6 eLock p0.wait)]]), (3, [.bx [iC p1.c, iC p1.e, iC p1.n]]), (4, [.bx [.sl 6 ([]), .sl 6 ([])]]), (6, [.bx [.sl 6 ([]), .sl 6 ([])]])]) (by kernel_rfl) ?_
      refine a_seq ?_
      refine a_seq ?_
      refine a_runM tyOK (l1 := [(2, pV 2), (3, pV 3), (4, pV 4), (6, pV 6), (18, lV 6 eLock p0.held), (19, iV (((((p0.held).map eLock).length : Nat) : Int))), (20, iV 0)]) (by kernel_rfl) ?_
      obtain ⟨y1, h, ky1⟩ := bndJ_e h
      refine a_joinT (ι := (List Lock)) (fun j => mk 76 [(2, pV 2), (3, pV 3), (4, pV 4), (6, pV 6)] [(2, [.bx [.fz (lC 6 eLock p0.held), .fz (lC 6 eLock p0.wait)]]), (3, [.bx [iC p1.c, iC p1.e, iC p1.n]]), (4, [.bx [.sl 6 ([]), .sl 6 ([])]]), (6, [.bx [lC 6 eLock j, .sl 6 ([])]])]) (fun j => y1 = j) ?_ ?_
      · refine a_block ?_
        refine a_loopT (Bs_LockFree_1 p0 p1) (fun s1 => mk 76 [(2, pV 2), (3, pV 3), (4, pV 4), (6, pV 6), (18, lV 6 eLock p0.held), (19, iV (((((p0.held).map eLock).length : Nat) : Int))), (20, iV s1.v20)] [(2, [.bx [.fz (lC 6 eLock p0.held), .fz (lC 6 eLock p0.wait)]]), (3, [.bx [iC p1.c, iC p1.e, iC p1.n]]), (4, [.bx [.sl 6 ([]), .sl 6 ([])]]), (6, [.bx [lC 6 eLock s1.w6_0_0, .sl 6 ([])]])]) ((⟨0, ([] : List Lock)⟩ : Ss_LockFree_1)) h ?_ ?_
        · exact imp_keepTo [2, 3, 4, 6, 18, 19, 20] (by kernel_rfl) (imp_done rfl)
        intro s1 y2 h zy2
        unfold Bs_LockFree_1 at h
        refine a_seq ?_
        refine a_run [2, 3, 4, 6, 18, 19, 20, 21] tyOK (st1 := mk 76 [(2, pV 2), (3, pV 3), (4, pV 4), (6, pV 6), (18, lV 6 eLock p0.held), (19, iV (((((p0.held).map eLock).length : Nat) : Int))), (20, iV s1.v20), (21, bV (decide (s1.v20 < (((((p0.held).map eLock).length : Nat) : Int)))))] [(2, [.bx [.fz (lC 6 eLock p0.held), .fz (lC 6 eLock p0.wait)]]), (3, [.bx [iC p1.c, iC p1.e, iC p1.n]]), (4, [.bx [.sl 6 ([]), .sl 6 ([])]]), (6, [.bx [lC 6 eLock s1.w6_0_0, .sl 6 ([])]])]) (by kernel_rfl) ?_
        refine a_seq ?_
        refine a_cond (b := decide (s1.v20 < (((((p0.held).map eLock).length : Nat) : Int)))) (by kernel_rfl) (fun h2 => ?_) (fun h2 => ?_)
        · replace h := cT h2 h
          refine a_skip ?_
          refine a_seq ?_
          refine a_block ?_
          refine a_seq ?_
          refine a_ops [0, 1, 2, 3] (by kernel_rfl) ?_
          obtain ⟨x1, ex1, h⟩ := bnd_e h
          refine ao_index (d := 22) (size := 6) (n := s1.v20) (rows := (p0.held).map eLock) (st1 := mk 76 [(2, pV 2), (3, pV 3), (4, pV 4), (6, pV 6), (18, lV 6 eLock p0.held), (19, iV (((((p0.held).map eLock).length : Nat) : Int))), (20, iV s1.v20), (22, .one (.fp [iC x1.tx.c, iC x1.tx.e, iC x1.tx.n, sC x1.range.lo, sC x1.range.hi, bC x1.ex] 0))] [(2, [.bx [.fz (lC 6 eLock p0.held), .fz (lC 6 eLock p0.wait)]]), (3, [.bx [iC p1.c, iC p1.e, iC p1.n]]), (4, [.bx [.sl 6 ([]), .sl 6 ([])]]), (6, [.bx [lC 6 eLock s1.w6_0_0, .sl 6 ([])]])]) (eLock x1) [2, 3, 4, 6, 18, 19, 20, 22] tyOK (by kernel_rfl) (getI_e ex1).1 (show ((p0.held).map eLock)[_]? = some _ from by rw [List.getElem?_map, (getI_e ex1).2]; rfl) (by kernel_rfl) (by kernel_rfl) ?_
          refine ao_some [1, 2, 3] [] [2, 3, 4, 6, 8, 18, 19, 20] tyOK (st1 := mk 76 [(2, pV 2), (3, pV 3), (4, pV 4), (6, pV 6), (8, pV 8), (18, lV 6 eLock p0.held), (19, iV (((((p0.held).map eLock).length : Nat) : Int))), (20, iV s1.v20)] [(2, [.bx [.fz (lC 6 eLock p0.held), .fz (lC 6 eLock p0.wait)]]), (3, [.bx [iC p1.c, iC p1.e, iC p1.n]]), (4, [.bx [.sl 6 ([]), .sl 6 ([])]]), (6, [.bx [lC 6 eLock s1.w6_0_0, .sl 6 ([])]]), (8, [.bx [iC x1.tx.c, iC x1.tx.e, iC x1.tx.n, sC x1.range.lo, sC x1.range.hi, bC x1.ex]])]) (by kernel_rfl) ?_
          refine ao_nil ?_
          refine a_seq ?_
          refine a_runM tyOK (l1 := [(2, pV 2), (3, pV 3), (4, pV 4), (6, pV 6), (8, pV 8), (18, lV 6 eLock p0.held), (19, iV (((((p0.held).map eLock).length : Nat) : Int))), (20, iV s1.v20), (27, bV (!((x1.tx.c == p1.c) && ((x1.tx.e == p1.e) && ((x1.tx.n == p1.n) && true)))))]) (by kernel_rfl) ?_
          obtain ⟨y3, h, ky3⟩ := bndJ_e h
          refine a_joinT (ι := (List Lock)) (fun j => mk 76 [(2, pV 2), (3, pV 3), (4, pV 4), (6, pV 6), (18, lV 6 eLock p0.held), (19, iV (((((p0.held).map eLock).length : Nat) : Int))), (20, iV s1.v20)] [(2, [.bx [.fz (lC 6 eLock p0.held), .fz (lC 6 eLock p0.wait)]]), (3, [.bx [iC p1.c, iC p1.e, iC p1.n]]), (4, [.bx [.sl 6 ([]), .sl 6 ([])]]), (6, [.bx [lC 6 eLock j, .sl 6 ([])]])]) (fun j => y3 = j) ?_ ?_
          · refine a_cond (b := !((x1.tx.c == p1.c) && ((x1.tx.e == p1.e) && ((x1.tx.n == p1.n) && true)))) (by kernel_rfl) (fun h3 => ?_) (fun h3 => ?_)
            · replace h := cT h3 h
              refine a_ops [0, 1, 2, 3, 4, 5, 6] (by kernel_rfl) ?_
              refine ao_some [0, 1, 2, 3] [4, 5, 6] [2, 3, 4, 6, 18, 19, 20, 29, 31] tyOK (st1 := mk 76 [(2, pV 2), (3, pV 3), (4, pV 4), (6, pV 6), (18, lV 6 eLock p0.held), (19, iV (((((p0.held).map eLock).length : Nat) : Int))), (20, iV s1.v20), (29, .one (.so [(6, 0)] 0 0 (((s1.w6_0_0).map eLock).length))), (31, .one (.so [] 31 0 1))] [(2, [.bx [.fz (lC 6 eLock p0.held), .fz (lC 6 eLock p0.wait)]]), (3, [.bx [iC p1.c, iC p1.e, iC p1.n]]), (4, [.bx [.sl 6 ([]), .sl 6 ([])]]), (6, [.bx [lC 6 eLock s1.w6_0_0, .sl 6 ([])]]), (31, [.sl 6 ([[iC x1.tx.c, iC x1.tx.e, iC x1.tx.n, sC x1.range.lo, sC x1.range.hi, bC x1.ex]])])]) (by kernel_rfl) ?_
              obtain ⟨c1, h⟩ := chk_e h
              refine ao_append (d := 32) (n := (((s1.w6_0_0).map eLock).length)) (n' := ((s1.w6_0_0 ++ ([x1] : List Lock)).length)) (bytes := 64) (size := 6) (src := (some ([(6, 0)], 0, 0))) (rows := (s1.w6_0_0).map eLock) (tx := .one (.so [] 31 0 1)) (new := [[iC x1.tx.c, iC x1.tx.e, iC x1.tx.n, sC x1.range.lo, sC x1.range.hi, bC x1.ex]]) (rows' := (s1.w6_0_0 ++ ([x1] : List Lock)).map eLock) (st1 := mk 76 [(2, pV 2), (3, pV 3), (4, pV 4), (6, pV 6), (18, lV 6 eLock p0.held), (19, iV (((((p0.held).map eLock).length : Nat) : Int))), (20, iV s1.v20), (32, .one (.so [] 32 0 ((s1.w6_0_0 ++ ([x1] : List Lock)).length)))] [(2, [.bx [.fz (lC 6 eLock p0.held), .fz (lC 6 eLock p0.wait)]]), (3, [.bx [iC p1.c, iC p1.e, iC p1.n]]), (4, [.bx [.sl 6 ([]), .sl 6 ([])]]), (6, [.bx [.dead, .sl 6 ([])]]), (32, [lC 6 eLock (s1.w6_0_0 ++ ([x1] : List Lock))])]) [2, 3, 4, 6, 18, 19, 20, 32] tyOK (by kernel_rfl) (by kernel_rfl) (by simp) (by simpa using c1) (by kernel_rfl) (by simp [bC, eLock, eRange, eTx, frzC, iC, sC]) (by simp) (by kernel_rfl) ?_
              refine ao_someM [5] [6] tyOK (l1 := [(2, pV 2), (3, pV 3), (4, pV 4), (6, pV 6), (18, lV 6 eLock p0.held), (19, iV (((((p0.held).map eLock).length : Nat) : Int))), (20, iV s1.v20), (32, .one (.so [] 32 0 ((s1.w6_0_0 ++ ([x1] : List Lock)).length))), (33, pV 6)]) (by kernel_rfl) ?_
              refine ao_o (ob := [(((s1.w6_0_0 ++ ([x1] : List Lock)).map eLock).length, (s1.w6_0_0 ++ ([x1] : List Lock)).length)]) (st1 := mk 76 [(2, pV 2), (3, pV 3), (4, pV 4), (6, pV 6), (18, lV 6 eLock p0.held), (19, iV (((((p0.held).map eLock).length : Nat) : Int))), (20, iV s1.v20)] [(2, [.bx [.fz (lC 6 eLock p0.held), .fz (lC 6 eLock p0.wait)]]), (3, [.bx [iC p1.c, iC p1.e, iC p1.n]]), (4, [.bx [.sl 6 ([]), .sl 6 ([])]]), (6, [.bx [lC 6 eLock (s1.w6_0_0 ++ ([x1] : List Lock)), .sl 6 ([])]])]) [2, 3, 4, 6, 18, 19, 20] tyOK (by kernel_rfl) ⟨by simp, trivial⟩ ?_
              refine ao_nil ?_
              obtain rfl := Option.some.inj h
              show ∃ _, _ ∧ Imp _ _ _
              refine ⟨_, rfl, ?_⟩
              exact imp_keepTo [2, 3, 4, 6, 18, 19, 20] (by kernel_rfl) (imp_done rfl)
            · replace h := cF h3 h
              refine a_skip ?_
              obtain rfl := Option.some.inj h
              show ∃ _, _ ∧ Imp _ _ _
              refine ⟨_, rfl, ?_⟩
              exact imp_keepTo [2, 3, 4, 6, 18, 19, 20] (by kernel_rfl) (imp_done rfl)
          intro j1 hj1
          replace h := ky3 _ hj1
          refine a_run [2, 3, 4, 6, 18, 19, 20] tyOK (st1 := mk 76 [(2, pV 2), (3, pV 3), (4, pV 4), (6, pV 6), (18, lV 6 eLock p0.held), (19, iV (((((p0.held).map eLock).length : Nat) : Int))), (20, iV (IntKind.wrap .i64 (s1.v20 + 1)))] [(2, [.bx [.fz (lC 6 eLock p0.held), .fz (lC 6 eLock p0.wait)]]), (3, [.bx [iC p1.c, iC p1.e, iC p1.n]]), (4, [.bx [.sl 6 ([]), .sl 6 ([])]]), (6, [.bx [lC 6 eLock j1, .sl 6 ([])]])]) (by kernel_rfl) ?_
          obtain rfl := Option.some.inj h
          show ∃ _, _ ∧ Imp _ _ _
          refine ⟨_, rfl, ?_⟩
          exact imp_keepTo [2, 3, 4, 6, 18, 19, 20] (by kernel_rfl) (imp_done rfl)
        · replace h := cF h2 h
          refine a_exit ?_
          obtain rfl := Option.some.inj h
          obtain rfl := zy2 _ rfl
          show ∃ _, _ ∧ Imp _ _ _
          refine ⟨_, rfl, ?_⟩
          exact imp_keepTo [2, 3, 4, 6] (by kernel_rfl) (imp_done rfl)
      intro j2 hj2
      replace h := ky1 _ hj2
      refine a_seq ?_
      refine a_run [2, 3, 4, 6, 9] tyOK (st1 := mk 76 [(2, pV 2), (3, pV 3), (4, pV 4), (6, pV 6), (9, .one (.so [] 35 0 0))] [(2, [.bx [.fz (lC 6 eLock p0.held), .fz (lC 6 eLock p0.wait)]]), (3, [.bx [iC p1.c, iC p1.e, iC p1.n]]), (4, [.bx [.sl 6 ([]), .sl 6 ([])]]), (6, [.bx [lC 6 eLock j2, .sl 6 ([])]]), (35, [.sl 6 ([])])]) (by kernel_rfl) ?_
      refine a_seq ?_
      refine a_seq ?_
      refine a_run [3, 4, 6, 9, 37, 38, 39] tyOK (st1 := mk 76 [(3, pV 3), (4, pV 4), (6, pV 6), (9, .one (.so [] 35 0 0)), (37, lV 6 eLock p0.wait), (38, iV (((((p0.wait).map eLock).length : Nat) : Int))), (39, iV 0)] [(3, [.bx [iC p1.c, iC p1.e, iC p1.n]]), (4, [.bx [.sl 6 ([]), .sl 6 ([])]]), (6, [.bx [lC 6 eLock j2, .sl 6 ([])]]), (35, [.sl 6 ([])])]) (by kernel_rfl) ?_
      obtain ⟨y4, h, ky4⟩ := bndJ_e h
      refine a_joinT (ι := Xs_LockFree_3) (fun j => mk 76 [(4, pV 4), (6, pV 6), (9, .one (.so [] 9 0 ((j.v9).length)))] [(4, [.bx [.sl 6 ([]), .sl 6 ([])]]), (6, [.bx [lC 6 eLock j.w6_0_0, lC 6 eLock j.w6_0_1]]), (9, [lC 6 eLock j.v9])]) (fun j => y4 = j) ?_ ?_
      · refine a_block ?_
        refine a_loopT (Bs_LockFree_2 p0 p1) (fun s2 => mk 76 [(3, pV 3), (4, pV 4), (6, pV 6), (9, .one (.so [] 9 0 ((s2.v9).length))), (37, lV 6 eLock p0.wait), (38, iV (((((p0.wait).map eLock).length : Nat) : Int))), (39, iV s2.v39)] [(3, [.bx [iC p1.c, iC p1.e, iC p1.n]]), (4, [.bx [.sl 6 ([]), .sl 6 ([])]]), (6, [.bx [lC 6 eLock s2.w6_0_0, lC 6 eLock s2.w6_0_1]]), (9, [lC 6 eLock s2.v9])]) ((⟨[], 0, j2, ([] : List Lock)⟩ : Ss_LockFree_2)) h ?_ ?_
        · refine imp_rename 35 9 9 [3, 4, 6, 9, 37, 38, 39] (s1 := mk 76 [(3, pV 3), (4, pV 4), (6, pV 6), (9, .one (.so [] 9 0 0)), (37, lV 6 eLock p0.wait), (38, iV (((((p0.wait).map eLock).length : Nat) : Int))), (39, iV 0)] [(3, [.bx [iC p1.c, iC p1.e, iC p1.n]]), (4, [.bx [.sl 6 ([]), .sl 6 ([])]]), (6, [.bx [lC 6 eLock j2, .sl 6 ([])]]), (9, [.sl 6 ([])])]) (by kernel_rfl) ?_
          exact imp_keepTo [3, 4, 6, 9, 37, 38, 39] (by kernel_rfl) (imp_done rfl)
        intro s2 y5 h zy5
        unfold Bs_LockFree_2 at h
        refine a_seq ?_
        refine a_run [3, 4, 6, 9, 37, 38, 39, 40] tyOK (st1 := mk 76 [(3, pV 3), (4, pV 4), (6, pV 6), (9, .one (.so [] 9 0 ((s2.v9).length))), (37, lV 6 eLock p0.wait), (38, iV (((((p0.wait).map eLock).length : Nat) : Int))), (39, iV s2.v39), (40, bV (decide (s2.v39 < (((((p0.wait).map eLock).length : Nat) : Int)))))] [(3, [.bx [iC p1.c, iC p1.e, iC p1.n]]), (4, [.bx [.sl 6 ([]), .sl 6 ([])]]), (6, [.bx [lC 6 eLock s2.w6_0_0, lC 6 eLock s2.w6_0_1]]), (9, [lC 6 eLock s2.v9])]) (by kernel_rfl) ?_
        refine a_seq ?_
        refine a_cond (b := decide (s2.v39 < (((((p0.wait).map eLock).length : Nat) : Int)))) (by kernel_rfl) (fun h4 => ?_) (fun h4 => ?_)
        · replace h := cT h4 h
          refine a_skip ?_
          refine a_seq ?_
          obtain ⟨y6, h, ky6⟩ := bndJ_e h
          refine a_joinT (ι := Xs_LockFree_4) (fun j => mk 76 [(3, pV 3), (4, pV 4), (6, pV 6), (9, .one (.so [] 9 0 ((j.v9).length))), (37, lV 6 eLock p0.wait), (38, iV (((((p0.wait).map eLock).length : Nat) : Int))), (39, iV s2.v39)] [(3, [.bx [iC p1.c, iC p1.e, iC p1.n]]), (4, [.bx [.sl 6 ([]), .sl 6 ([])]]), (6, [.bx [lC 6 eLock j.w6_0_0, lC 6 eLock j.w6_0_1]]), (9, [lC 6 eLock j.v9])]) (fun j => y6 = j) ?_ ?_
          · refine a_block ?_
            refine a_seq ?_
            refine a_ops [0, 1, 2, 3] (by kernel_rfl) ?_
            obtain ⟨x2, ex2, h⟩ := bnd_e h
            refine ao_index (d := 41) (size := 6) (n := s2.v39) (rows := (p0.wait).map eLock) (st1 := mk 76 [(3, pV 3), (4, pV 4), (6, pV 6), (9, .one (.so [] 9 0 ((s2.v9).length))), (37, lV 6 eLock p0.wait), (38, iV (((((p0.wait).map eLock).length : Nat) : Int))), (39, iV s2.v39), (41, .one (.fp [iC x2.tx.c, iC x2.tx.e, iC x2.tx.n, sC x2.range.lo, sC x2.range.hi, bC x2.ex] 0))] [(3, [.bx [iC p1.c, iC p1.e, iC p1.n]]), (4, [.bx [.sl 6 ([]), .sl 6 ([])]]), (6, [.bx [lC 6 eLock s2.w6_0_0, lC 6 eLock s2.w6_0_1]]), (9, [lC 6 eLock s2.v9])]) (eLock x2) [3, 4, 6, 9, 37, 38, 39, 41] tyOK (by kernel_rfl) (getI_e ex2).1 (show ((p0.wait).map eLock)[_]? = some _ from by rw [List.getElem?_map, (getI_e ex2).2]; rfl) (by kernel_rfl) (by kernel_rfl) ?_
            refine ao_some [1, 2, 3] [] [3, 4, 6, 9, 11, 37, 38, 39] tyOK (st1 := mk 76 [(3, pV 3), (4, pV 4), (6, pV 6), (9, .one (.so [] 9 0 ((s2.v9).length))), (11, pV 11), (37, lV 6 eLock p0.wait), (38, iV (((((p0.wait).map eLock).length : Nat) : Int))), (39, iV s2.v39)] [(3, [.bx [iC p1.c, iC p1.e, iC p1.n]]), (4, [.bx [.sl 6 ([]), .sl 6 ([])]]), (6, [.bx [lC 6 eLock s2.w6_0_0, lC 6 eLock s2.w6_0_1]]), (9, [lC 6 eLock s2.v9]), (11, [.bx [iC x2.tx.c, iC x2.tx.e, iC x2.tx.n, sC x2.range.lo, sC x2.range.hi, bC x2.ex]])]) (by kernel_rfl) ?_
            refine ao_nil ?_
            refine a_seq ?_
            refine a_seq ?_
            refine a_runM tyOK (l1 := [(3, pV 3), (4, pV 4), (6, pV 6), (9, .one (.so [] 9 0 ((s2.v9).length))), (11, pV 11), (37, lV 6 eLock p0.wait), (38, iV (((((p0.wait).map eLock).length : Nat) : Int))), (39, iV s2.v39), (46, bV (((x2.tx.c == p1.c) && ((x2.tx.e == p1.e) && ((x2.tx.n == p1.n) && true)))))]) (by kernel_rfl) ?_
            refine a_cond (b := ((x2.tx.c == p1.c) && ((x2.tx.e == p1.e) && ((x2.tx.n == p1.n) && true)))) (by kernel_rfl) (fun h5 => ?_) (fun h5 => ?_)
            · replace h := cT h5 h
              refine a_exit ?_
              obtain rfl := Option.some.inj h
              show ∃ _, _ ∧ Imp _ _ _
              refine ⟨_, rfl, ?_⟩
              exact imp_keepTo [3, 4, 6, 9, 37, 38, 39] (by kernel_rfl) (imp_done rfl)
            · replace h := cF h5 h
              refine a_skip ?_
              refine a_seq ?_
              obtain ⟨y7, h, ky7⟩ := bndJ_e h
              refine a_joinT (ι := Bool) (fun j => mk 76 [(3, pV 3), (4, pV 4), (6, pV 6), (9, .one (.so [] 9 0 ((s2.v9).length))), (11, pV 11), (37, lV 6 eLock p0.wait), (38, iV (((((p0.wait).map eLock).length : Nat) : Int))), (39, iV s2.v39), (56, bV j)] [(3, [.bx [iC p1.c, iC p1.e, iC p1.n]]), (4, [.bx [.sl 6 ([]), .sl 6 ([])]]), (6, [.bx [lC 6 eLock s2.w6_0_0, lC 6 eLock s2.w6_0_1]]), (9, [lC 6 eLock s2.v9]), (11, [.bx [iC x2.tx.c, iC x2.tx.e, iC x2.tx.n, sC x2.range.lo, sC x2.range.hi, bC x2.ex]])]) (fun j => y7 = j) ?_ ?_
              · refine a_ops [0, 1, 2, 3, 4, 5, 6, 7, 8, 9] (by kernel_rfl) ?_
                refine ao_some [0, 1, 2] [3, 4, 5, 6, 7, 8, 9] [3, 4, 6, 9, 11, 37, 38, 39, 48, 49] tyOK (st1 := mk 76 [(3, pV 3), (4, pV 4), (6, pV 6), (9, .one (.so [] 9 0 ((s2.v9).length))), (11, pV 11), (37, lV 6 eLock p0.wait), (38, iV (((((p0.wait).map eLock).length : Nat) : Int))), (39, iV s2.v39), (48, .one (.so [(6, 0)] 0 0 (((s2.w6_0_0).map eLock).length))), (49, .agg [.c (iC x2.tx.c), .c (iC x2.tx.e), .c (iC x2.tx.n), .c (sC x2.range.lo), .c (sC x2.range.hi), .c (bC x2.ex)])] [(3, [.bx [iC p1.c, iC p1.e, iC p1.n]]), (4, [.bx [.sl 6 ([]), .sl 6 ([])]]), (6, [.bx [lC 6 eLock s2.w6_0_0, lC 6 eLock s2.w6_0_1]]), (9, [lC 6 eLock s2.v9]), (11, [.bx [iC x2.tx.c, iC x2.tx.e, iC x2.tx.n, sC x2.range.lo, sC x2.range.hi, bC x2.ex]])]) (by kernel_rfl) ?_
                obtain ⟨r2, er2, h⟩ := bnd_e h
                refine ao_lend (f := 65) (d := 50) (A := [.one (.so [(6, 0)] 0 0 (((s2.w6_0_0).map eLock).length)), .agg [.c (iC x2.tx.c), .c (iC x2.tx.e), .c (iC x2.tx.n), .c (sC x2.range.lo), .c (sC x2.range.hi), .c (bC x2.ex)]]) (A' := [lV 6 eLock s2.w6_0_0, .agg [.c (iC x2.tx.c), .c (iC x2.tx.e), .c (iC x2.tx.n), .c (sC x2.range.lo), .c (sC x2.range.hi), .c (bC x2.ex)]]) (st1 := mk 76 [(3, pV 3), (4, pV 4), (6, pV 6), (9, .one (.so [] 9 0 ((s2.v9).length))), (11, pV 11), (37, lV 6 eLock p0.wait), (38, iV (((((p0.wait).map eLock).length : Nat) : Int))), (39, iV s2.v39), (50, bV r2)] [(3, [.bx [iC p1.c, iC p1.e, iC p1.n]]), (4, [.bx [.sl 6 ([]), .sl 6 ([])]]), (6, [.bx [lC 6 eLock s2.w6_0_0, lC 6 eLock s2.w6_0_1]]), (9, [lC 6 eLock s2.v9]), (11, [.bx [iC x2.tx.c, iC x2.tx.e, iC x2.tx.n, sC x2.range.lo, sC x2.range.hi, bC x2.ex]])]) [3, 4, 6, 9, 11, 37, 38, 39, 50] (k_s_l07Any s2.w6_0_0 x2 r2 er2) Try.call65 (by kernel_rfl) (.cons (.one (lend_so (by kernel_rfl) (by simp))) (.cons (.agg (.cons (.same rfl) (.cons (.same rfl) (.cons (.same rfl) (.cons (.same rfl) (.cons (.same rfl) (.cons (.same rfl) .nil))))))) .nil)) (by kernel_rfl) (clean_nil) (by kernel_rfl) (by kernel_rfl) ?_
                refine ao_someM [4] [5, 6, 7, 8, 9] tyOK (l1 := [(3, pV 3), (4, pV 4), (6, pV 6), (9, .one (.so [] 9 0 ((s2.v9).length))), (11, pV 11), (37, lV 6 eLock p0.wait), (38, iV (((((p0.wait).map eLock).length : Nat) : Int))), (39, iV s2.v39), (51, bV r2)]) (by kernel_rfl) ?_
                rcases Bool.eq_false_or_eq_true (r2) with h6 | h6
                · replace h := cT h6 h
                  refine ao_saysM (k := 51) (t := bV r2) (t' := bV true) (l1 := [(3, pV 3), (4, pV 4), (6, pV 6), (9, .one (.so [] 9 0 ((s2.v9).length))), (11, pV 11), (37, lV 6 eLock p0.wait), (38, iV (((((p0.wait).map eLock).length : Nat) : Int))), (39, iV s2.v39), (51, bV true)]) (by kernel_rfl) (by rw [h6]) (by kernel_rfl) ?_
                  refine ao_someM [5, 6, 7, 8, 9] [] tyOK (l1 := [(3, pV 3), (4, pV 4), (6, pV 6), (9, .one (.so [] 9 0 ((s2.v9).length))), (11, pV 11), (37, lV 6 eLock p0.wait), (38, iV (((((p0.wait).map eLock).length : Nat) : Int))), (39, iV s2.v39), (56, bV true)]) (by kernel_rfl) ?_
                  refine ao_nil ?_
                  obtain rfl := Option.some.inj h
                  show ∃ _, _ ∧ Imp _ _ _
                  refine ⟨_, rfl, ?_⟩
                  exact imp_keepTo [3, 4, 6, 9, 11, 37, 38, 39, 56] (by kernel_rfl) (imp_done rfl)
                · replace h := cF h6 h
                  refine ao_saysM (k := 51) (t := bV r2) (t' := bV false) (l1 := [(3, pV 3), (4, pV 4), (6, pV 6), (9, .one (.so [] 9 0 ((s2.v9).length))), (11, pV 11), (37, lV 6 eLock p0.wait), (38, iV (((((p0.wait).map eLock).length : Nat) : Int))), (39, iV s2.v39), (51, bV false)]) (by kernel_rfl) (by rw [h6]) (by kernel_rfl) ?_
                  refine ao_someM [5, 6, 7] [8, 9] tyOK (l1 := [(3, pV 3), (4, pV 4), (6, pV 6), (9, .one (.so [] 9 0 ((s2.v9).length))), (11, pV 11), (37, lV 6 eLock p0.wait), (38, iV (((((p0.wait).map eLock).length : Nat) : Int))), (39, iV s2.v39), (51, bV false), (53, .one (.so [(6, 0)] 0 1 (((s2.w6_0_1).map eLock).length))), (54, .agg [.c (iC x2.tx.c), .c (iC x2.tx.e), .c (iC x2.tx.n), .c (sC x2.range.lo), .c (sC x2.range.hi), .c (bC x2.ex)])]) (by kernel_rfl) ?_
                  obtain ⟨r3, er3, h⟩ := bnd_e h
                  refine ao_lend (f := 65) (d := 55) (A := [.one (.so [(6, 0)] 0 1 (((s2.w6_0_1).map eLock).length)), .agg [.c (iC x2.tx.c), .c (iC x2.tx.e), .c (iC x2.tx.n), .c (sC x2.range.lo), .c (sC x2.range.hi), .c (bC x2.ex)]]) (A' := [lV 6 eLock s2.w6_0_1, .agg [.c (iC x2.tx.c), .c (iC x2.tx.e), .c (iC x2.tx.n), .c (sC x2.range.lo), .c (sC x2.range.hi), .c (bC x2.ex)]]) (st1 := mk 76 [(3, pV 3), (4, pV 4), (6, pV 6), (9, .one (.so [] 9 0 ((s2.v9).length))), (11, pV 11), (37, lV 6 eLock p0.wait), (38, iV (((((p0.wait).map eLock).length : Nat) : Int))), (39, iV s2.v39), (51, bV false), (55, bV r3)] [(3, [.bx [iC p1.c, iC p1.e, iC p1.n]]), (4, [.bx [.sl 6 ([]), .sl 6 ([])]]), (6, [.bx [lC 6 eLock s2.w6_0_0, lC 6 eLock s2.w6_0_1]]), (9, [lC 6 eLock s2.v9]), (11, [.bx [iC x2.tx.c, iC x2.tx.e, iC x2.tx.n, sC x2.range.lo, sC x2.range.hi, bC x2.ex]])]) [3, 4, 6, 9, 11, 37, 38, 39, 51, 55] (k_s_l07Any s2.w6_0_1 x2 r3 er3) Try.call65 (by kernel_rfl) (.cons (.one (lend_so (by kernel_rfl) (by simp))) (.cons (.agg (.cons (.same rfl) (.cons (.same rfl) (.cons (.same rfl) (.cons (.same rfl) (.cons (.same rfl) (.cons (.same rfl) .nil))))))) .nil)) (by kernel_rfl) (clean_nil) (by kernel_rfl) (by kernel_rfl) ?_
                  refine ao_someM [9] [] tyOK (l1 := [(3, pV 3), (4, pV 4), (6, pV 6), (9, .one (.so [] 9 0 ((s2.v9).length))), (11, pV 11), (37, lV 6 eLock p0.wait), (38, iV (((((p0.wait).map eLock).length : Nat) : Int))), (39, iV s2.v39), (56, bV r3)]) (by kernel_rfl) ?_
                  refine ao_nil ?_
                  obtain rfl := Option.some.inj h
                  show ∃ _, _ ∧ Imp _ _ _
                  refine ⟨_, rfl, ?_⟩
                  exact imp_keepTo [3, 4, 6, 9, 11, 37, 38, 39, 56] (by kernel_rfl) (imp_done rfl)
              intro j3 hj3
              replace h := ky7 _ hj3
              obtain ⟨y8, h, ky8⟩ := bndJ_e h
              refine a_joinT (ι := Xs_LockFree_6) (fun j => mk 76 [(3, pV 3), (4, pV 4), (6, pV 6), (9, .one (.so [] 9 0 ((j.v9).length))), (37, lV 6 eLock p0.wait), (38, iV (((((p0.wait).map eLock).length : Nat) : Int))), (39, iV s2.v39)] [(3, [.bx [iC p1.c, iC p1.e, iC p1.n]]), (4, [.bx [.sl 6 ([]), .sl 6 ([])]]), (6, [.bx [lC 6 eLock j.w6_0_0, lC 6 eLock j.w6_0_1]]), (9, [lC 6 eLock j.v9])]) (fun j => y8 = j) ?_ ?_
              · refine a_cond (b := j3) (by kernel_rfl) (fun h7 => ?_) (fun h7 => ?_)
                · replace h := cT h7 h
                  refine a_ops [0, 1, 2, 3, 4, 5, 6] (by kernel_rfl) ?_
                  refine ao_some [0, 1, 2, 3] [4, 5, 6] [3, 4, 6, 9, 37, 38, 39, 58, 60] tyOK (st1 := mk 76 [(3, pV 3), (4, pV 4), (6, pV 6), (9, .one (.so [] 9 0 ((s2.v9).length))), (37, lV 6 eLock p0.wait), (38, iV (((((p0.wait).map eLock).length : Nat) : Int))), (39, iV s2.v39), (58, .one (.so [(6, 0)] 0 1 (((s2.w6_0_1).map eLock).length))), (60, .one (.so [] 60 0 1))] [(3, [.bx [iC p1.c, iC p1.e, iC p1.n]]), (4, [.bx [.sl 6 ([]), .sl 6 ([])]]), (6, [.bx [lC 6 eLock s2.w6_0_0, lC 6 eLock s2.w6_0_1]]), (9, [lC 6 eLock s2.v9]), (60, [.sl 6 ([[iC x2.tx.c, iC x2.tx.e, iC x2.tx.n, sC x2.range.lo, sC x2.range.hi, bC x2.ex]])])]) (by kernel_rfl) ?_
                  obtain ⟨c2, h⟩ := chk_e h
                  refine ao_append (d := 61) (n := (((s2.w6_0_1).map eLock).length)) (n' := ((s2.w6_0_1 ++ ([x2] : List Lock)).length)) (bytes := 64) (size := 6) (src := (some ([(6, 0)], 0, 1))) (rows := (s2.w6_0_1).map eLock) (tx := .one (.so [] 60 0 1)) (new := [[iC x2.tx.c, iC x2.tx.e, iC x2.tx.n, sC x2.range.lo, sC x2.range.hi, bC x2.ex]]) (rows' := (s2.w6_0_1 ++ ([x2] : List Lock)).map eLock) (st1 := mk 76 [(3, pV 3), (4, pV 4), (6, pV 6), (9, .one (.so [] 9 0 ((s2.v9).length))), (37, lV 6 eLock p0.wait), (38, iV (((((p0.wait).map eLock).length : Nat) : Int))), (39, iV s2.v39), (61, .one (.so [] 61 0 ((s2.w6_0_1 ++ ([x2] : List Lock)).length)))] [(3, [.bx [iC p1.c, iC p1.e, iC p1.n]]), (4, [.bx [.sl 6 ([]), .sl 6 ([])]]), (6, [.bx [lC 6 eLock s2.w6_0_0, .dead]]), (9, [lC 6 eLock s2.v9]), (61, [lC 6 eLock (s2.w6_0_1 ++ ([x2] : List Lock))])]) [3, 4, 6, 9, 37, 38, 39, 61] tyOK (by kernel_rfl) (by kernel_rfl) (by simp) (by simpa using c2) (by kernel_rfl) (by simp [bC, eLock, eRange, eTx, frzC, iC, sC]) (by simp) (by kernel_rfl) ?_
                  refine ao_someM [5] [6] tyOK (l1 := [(3, pV 3), (4, pV 4), (6, pV 6), (9, .one (.so [] 9 0 ((s2.v9).length))), (37, lV 6 eLock p0.wait), (38, iV (((((p0.wait).map eLock).length : Nat) : Int))), (39, iV s2.v39), (61, .one (.so [] 61 0 ((s2.w6_0_1 ++ ([x2] : List Lock)).length))), (62, .one (.pl [(6, 0)] 0 1))]) (by kernel_rfl) ?_
                  refine ao_o (ob := [(((s2.w6_0_1 ++ ([x2] : List Lock)).map eLock).length, (s2.w6_0_1 ++ ([x2] : List Lock)).length)]) (st1 := mk 76 [(3, pV 3), (4, pV 4), (6, pV 6), (9, .one (.so [] 9 0 ((s2.v9).length))), (37, lV 6 eLock p0.wait), (38, iV (((((p0.wait).map eLock).length : Nat) : Int))), (39, iV s2.v39)] [(3, [.bx [iC p1.c, iC p1.e, iC p1.n]]), (4, [.bx [.sl 6 ([]), .sl 6 ([])]]), (6, [.bx [lC 6 eLock s2.w6_0_0, lC 6 eLock (s2.w6_0_1 ++ ([x2] : List Lock))]]), (9, [lC 6 eLock s2.v9])]) [3, 4, 6, 9, 37, 38, 39] tyOK (by kernel_rfl) ⟨by simp, trivial⟩ ?_
                  refine ao_nil ?_
                  obtain rfl := Option.some.inj h
                  show ∃ _, _ ∧ Imp _ _ _
                  refine ⟨_, rfl, ?_⟩
                  exact imp_keepTo [3, 4, 6, 9, 37, 38, 39] (by kernel_rfl) (imp_done rfl)
                · replace h := cF h7 h
                  refine a_seq ?_
                  refine a_ops [0, 1, 2, 3, 4, 5, 6] (by kernel_rfl) ?_
                  refine ao_some [0, 1, 2, 3] [4, 5, 6] [3, 4, 6, 9, 11, 37, 38, 39, 64, 66] tyOK (st1 := mk 76 [(3, pV 3), (4, pV 4), (6, pV 6), (9, .one (.so [] 9 0 ((s2.v9).length))), (11, pV 11), (37, lV 6 eLock p0.wait), (38, iV (((((p0.wait).map eLock).length : Nat) : Int))), (39, iV s2.v39), (64, .one (.so [(6, 0)] 0 0 (((s2.w6_0_0).map eLock).length))), (66, .one (.so [] 66 0 1))] [(3, [.bx [iC p1.c, iC p1.e, iC p1.n]]), (4, [.bx [.sl 6 ([]), .sl 6 ([])]]), (6, [.bx [lC 6 eLock s2.w6_0_0, lC 6 eLock s2.w6_0_1]]), (9, [lC 6 eLock s2.v9]), (11, [.bx [iC x2.tx.c, iC x2.tx.e, iC x2.tx.n, sC x2.range.lo, sC x2.range.hi, bC x2.ex]]), (66, [.sl 6 ([[iC x2.tx.c, iC x2.tx.e, iC x2.tx.n, sC x2.range.lo, sC x2.range.hi, bC x2.ex]])])]) (by kernel_rfl) ?_
                  obtain ⟨c3, h⟩ := chk_e h
                  refine ao_append (d := 67) (n := (((s2.w6_0_0).map eLock).length)) (n' := ((s2.w6_0_0 ++ ([x2] : List Lock)).length)) (bytes := 64) (size := 6) (src := (some ([(6, 0)], 0, 0))) (rows := (s2.w6_0_0).map eLock) (tx := .one (.so [] 66 0 1)) (new := [[iC x2.tx.c, iC x2.tx.e, iC x2.tx.n, sC x2.range.lo, sC x2.range.hi, bC x2.ex]]) (rows' := (s2.w6_0_0 ++ ([x2] : List Lock)).map eLock) (st1 := mk 76 [(3, pV 3), (4, pV 4), (6, pV 6), (9, .one (.so [] 9 0 ((s2.v9).length))), (11, pV 11), (37, lV 6 eLock p0.wait), (38, iV (((((p0.wait).map eLock).length : Nat) : Int))), (39, iV s2.v39), (67, .one (.so [] 67 0 ((s2.w6_0_0 ++ ([x2] : List Lock)).length)))] [(3, [.bx [iC p1.c, iC p1.e, iC p1.n]]), (4, [.bx [.sl 6 ([]), .sl 6 ([])]]), (6, [.bx [.dead, lC 6 eLock s2.w6_0_1]]), (9, [lC 6 eLock s2.v9]), (11, [.bx [iC x2.tx.c, iC x2.tx.e, iC x2.tx.n, sC x2.range.lo, sC x2.range.hi, bC x2.ex]]), (67, [lC 6 eLock (s2.w6_0_0 ++ ([x2] : List Lock))])]) [3, 4, 6, 9, 11, 37, 38, 39, 67] tyOK (by kernel_rfl) (by kernel_rfl) (by simp) (by simpa using c3) (by kernel_rfl) (by simp [bC, eLock, eRange, eTx, frzC, iC, sC]) (by simp) (by kernel_rfl) ?_
                  refine ao_someM [5] [6] tyOK (l1 := [(3, pV 3), (4, pV 4), (6, pV 6), (9, .one (.so [] 9 0 ((s2.v9).length))), (11, pV 11), (37, lV 6 eLock p0.wait), (38, iV (((((p0.wait).map eLock).length : Nat) : Int))), (39, iV s2.v39), (67, .one (.so [] 67 0 ((s2.w6_0_0 ++ ([x2] : List Lock)).length))), (68, pV 6)]) (by kernel_rfl) ?_
                  refine ao_o (ob := [(((s2.w6_0_0 ++ ([x2] : List Lock)).map eLock).length, (s2.w6_0_0 ++ ([x2] : List Lock)).length)]) (st1 := mk 76 [(3, pV 3), (4, pV 4), (6, pV 6), (9, .one (.so [] 9 0 ((s2.v9).length))), (11, pV 11), (37, lV 6 eLock p0.wait), (38, iV (((((p0.wait).map eLock).length : Nat) : Int))), (39, iV s2.v39)] [(3, [.bx [iC p1.c, iC p1.e, iC p1.n]]), (4, [.bx [.sl 6 ([]), .sl 6 ([])]]), (6, [.bx [lC 6 eLock (s2.w6_0_0 ++ ([x2] : List Lock)), lC 6 eLock s2.w6_0_1]]), (9, [lC 6 eLock s2.v9]), (11, [.bx [iC x2.tx.c, iC x2.tx.e, iC x2.tx.n, sC x2.range.lo, sC x2.range.hi, bC x2.ex]])]) [3, 4, 6, 9, 11, 37, 38, 39] tyOK (by kernel_rfl) ⟨by simp, trivial⟩ ?_
                  refine ao_nil ?_
                  refine a_ops [0, 1, 2, 3, 4] (by kernel_rfl) ?_
                  refine ao_some [0, 1, 2] [3, 4] [3, 4, 6, 37, 38, 39, 69, 71] tyOK (st1 := mk 76 [(3, pV 3), (4, pV 4), (6, pV 6), (37, lV 6 eLock p0.wait), (38, iV (((((p0.wait).map eLock).length : Nat) : Int))), (39, iV s2.v39), (69, .one (.so [] 9 0 ((s2.v9).length))), (71, .one (.so [] 71 0 1))] [(3, [.bx [iC p1.c, iC p1.e, iC p1.n]]), (4, [.bx [.sl 6 ([]), .sl 6 ([])]]), (6, [.bx [lC 6 eLock (s2.w6_0_0 ++ ([x2] : List Lock)), lC 6 eLock s2.w6_0_1]]), (9, [lC 6 eLock s2.v9]), (71, [.sl 6 ([[iC x2.tx.c, iC x2.tx.e, iC x2.tx.n, sC x2.range.lo, sC x2.range.hi, bC x2.ex]])])]) (by kernel_rfl) ?_
                  obtain ⟨c4, h⟩ := chk_e h
                  refine ao_append (d := 72) (n := ((s2.v9).length)) (n' := ((s2.v9 ++ ([x2] : List Lock)).length)) (bytes := 64) (size := 6) (src := (some ([], 9, 0))) (rows := (s2.v9).map eLock) (tx := .one (.so [] 71 0 1)) (new := [[iC x2.tx.c, iC x2.tx.e, iC x2.tx.n, sC x2.range.lo, sC x2.range.hi, bC x2.ex]]) (rows' := (s2.v9 ++ ([x2] : List Lock)).map eLock) (st1 := mk 76 [(3, pV 3), (4, pV 4), (6, pV 6), (37, lV 6 eLock p0.wait), (38, iV (((((p0.wait).map eLock).length : Nat) : Int))), (39, iV s2.v39), (72, .one (.so [] 72 0 ((s2.v9 ++ ([x2] : List Lock)).length)))] [(3, [.bx [iC p1.c, iC p1.e, iC p1.n]]), (4, [.bx [.sl 6 ([]), .sl 6 ([])]]), (6, [.bx [lC 6 eLock (s2.w6_0_0 ++ ([x2] : List Lock)), lC 6 eLock s2.w6_0_1]]), (72, [lC 6 eLock (s2.v9 ++ ([x2] : List Lock))])]) [3, 4, 6, 37, 38, 39, 72] tyOK (by kernel_rfl) (by kernel_rfl) (by simp) (by simpa using c4) (by kernel_rfl) (by simp [bC, eLock, eRange, eTx, frzC, iC, sC]) (by simp) (by kernel_rfl) ?_
                  refine ao_someM [4] [] tyOK (l1 := [(3, pV 3), (4, pV 4), (6, pV 6), (9, .one (.so [] 72 0 ((s2.v9 ++ ([x2] : List Lock)).length))), (37, lV 6 eLock p0.wait), (38, iV (((((p0.wait).map eLock).length : Nat) : Int))), (39, iV s2.v39)]) (by kernel_rfl) ?_
                  refine ao_nil ?_
                  obtain rfl := Option.some.inj h
                  show ∃ _, _ ∧ Imp _ _ _
                  refine ⟨_, rfl, ?_⟩
                  refine imp_rename 72 9 9 [3, 4, 6, 9, 37, 38, 39] (s1 := mk 76 [(3, pV 3), (4, pV 4), (6, pV 6), (9, .one (.so [] 9 0 ((s2.v9 ++ ([x2] : List Lock)).length))), (37, lV 6 eLock p0.wait), (38, iV (((((p0.wait).map eLock).length : Nat) : Int))), (39, iV s2.v39)] [(3, [.bx [iC p1.c, iC p1.e, iC p1.n]]), (4, [.bx [.sl 6 ([]), .sl 6 ([])]]), (6, [.bx [lC 6 eLock (s2.w6_0_0 ++ ([x2] : List Lock)), lC 6 eLock s2.w6_0_1]]), (9, [lC 6 eLock (s2.v9 ++ ([x2] : List Lock))])]) (by kernel_rfl) ?_
                  exact imp_keepTo [3, 4, 6, 9, 37, 38, 39] (by kernel_rfl) (imp_done rfl)
              intro j4 hj4
              replace h := ky8 _ hj4
              obtain rfl := Option.some.inj h
              show ∃ _, _ ∧ Imp _ _ _
              refine ⟨_, rfl, ?_⟩
              exact imp_keepTo [3, 4, 6, 9, 37, 38, 39] (by kernel_rfl) (imp_done rfl)
          intro j5 hj5
          replace h := ky6 _ hj5
          refine a_run [3, 4, 6, 9, 37, 38, 39] tyOK (st1 := mk 76 [(3, pV 3), (4, pV 4), (6, pV 6), (9, .one (.so [] 9 0 ((j5.v9).length))), (37, lV 6 eLock p0.wait), (38, iV (((((p0.wait).map eLock).length : Nat) : Int))), (39, iV (IntKind.wrap .i64 (s2.v39 + 1)))] [(3, [.bx [iC p1.c, iC p1.e, iC p1.n]]), (4, [.bx [.sl 6 ([]), .sl 6 ([])]]), (6, [.bx [lC 6 eLock j5.w6_0_0, lC 6 eLock j5.w6_0_1]]), (9, [lC 6 eLock j5.v9])]) (by kernel_rfl) ?_
          obtain rfl := Option.some.inj h
          show ∃ _, _ ∧ Imp _ _ _
          refine ⟨_, rfl, ?_⟩
          exact imp_keepTo [3, 4, 6, 9, 37, 38, 39] (by kernel_rfl) (imp_done rfl)
        · replace h := cF h4 h
          refine a_exit ?_
          obtain rfl := Option.some.inj h
          obtain rfl := zy5 _ rfl
          show ∃ _, _ ∧ Imp _ _ _
          refine ⟨_, rfl, ?_⟩
          exact imp_keepTo [4, 6, 9] (by kernel_rfl) (imp_done rfl)
      intro j6 hj6
      replace h := ky4 _ hj6
      refine a_seq ?_
      refine a_ops [0, 1, 2, 3] (by kernel_rfl) ?_
      refine ao_some [0, 1] [2, 3] [4, 74, 75] tyOK (st1 := mk 76 [(4, pV 4), (74, .agg [.so [(6, 0)] 0 0 (((j6.w6_0_0).map eLock).length), .so [(6, 0)] 0 1 (((j6.w6_0_1).map eLock).length)]), (75, .one (.so [] 9 0 ((j6.v9).length)))] [(4, [.bx [.sl 6 ([]), .sl 6 ([])]]), (6, [.bx [lC 6 eLock j6.w6_0_0, lC 6 eLock j6.w6_0_1]]), (9, [lC 6 eLock j6.v9])]) (by kernel_rfl) ?_
      refine ao_o (ob := [(((j6.w6_0_0).map eLock).length, ((j6.w6_0_0).map eLock).length), (((j6.w6_0_1).map eLock).length, ((j6.w6_0_1).map eLock).length)]) (st1 := mk 76 [(4, pV 4), (75, .one (.so [] 9 0 ((j6.v9).length)))] [(4, [.bx [lC 6 eLock j6.w6_0_0, lC 6 eLock j6.w6_0_1]]), (9, [lC 6 eLock j6.v9])]) [4, 75] tyOK (by kernel_rfl) ⟨by simp, by simp, trivial⟩ ?_
      refine ao_someM [3] [] tyOK (l1 := [(4, pV 4), (5, .one (.so [] 9 0 ((j6.v9).length)))]) (by kernel_rfl) ?_
      refine ao_nil ?_
      refine a_ret ?_
      obtain rfl := Option.some.inj h
      exact end_own (ob := [(((j6.w6_0_0).map eLock).length, ((j6.w6_0_0).map eLock).length), (((j6.w6_0_1).map eLock).length, ((j6.w6_0_1).map eLock).length), (((j6.v9).map eLock).length, (j6.v9).length)]) (res' := .tup [.agg [.so [] 0 0 (((j6.w6_0_0).map eLock).length), .so [] 0 1 (((j6.w6_0_1).map eLock).length)], .one (.so [] 0 2 ((j6.v9).length))]) (row' := [lC 6 eLock j6.w6_0_0, lC 6 eLock j6.w6_0_1, lC 6 eLock j6.v9]) (by kernel_rfl) ⟨by simp, by simp, by simp, trivial⟩ (by first | rfl | simp) (by first | rfl | simp)


end Go.Proofs.Ytagoajkiccgmjaa
namespace Go.Proofs.Ytagoajkiccgmjaa
open Go.Mv Go.RowKit
noncomputable def s_l01Num (p0 : Int) : Bool :=
 bif (decide (p0 ≥ 0)) then (decide (p0 ≤ 1099511627775)) else false
set_option maxHeartbeats 4000000 in
/-- spec.l01Num -/
theorem k_s_l01Num (p0 : Int) (v : Bool) (h : s_l01Num p0 = v) : CallOK Try.prog 140 [iV p0] (bV v) [] :=
  callOK tyOK Try.func140 rfl fun w S hS => by
    unfold s_l01Num at h
    refine a_seq ?_
    refine a_run [0] tyOK (st1 := mk 9 [(0, iV p0)] []) (by kernel_rfl) ?_
    refine a_seq ?_
    refine a_mid (mk 9 [(2, bV (bif (decide (p0 ≥ 0)) then (decide (p0 ≤ 1099511627775)) else false))] []) ?_ ?_
    · refine a_ops [0, 1, 2, 3, 4, 5, 6] (by kernel_rfl) ?_
      refine ao_someM [0, 1, 2] [3, 4, 5, 6] tyOK (l1 := [(0, iV p0), (5, bV (decide (p0 ≥ 0)))]) (by kernel_rfl) ?_
      rcases Bool.eq_false_or_eq_true (decide (p0 ≥ 0)) with h1 | h1
      · refine ao_saysM (k := 5) (t := bV (decide (p0 ≥ 0))) (t' := bV true) (l1 := [(0, iV p0), (5, bV true)]) (by kernel_rfl) (by rw [h1]) (by kernel_rfl) ?_
        refine ao_someM [3, 4, 5, 6] [] tyOK (l1 := [(2, bV (decide (p0 ≤ 1099511627775)))]) (by kernel_rfl) ?_
        refine ao_nil ?_
        show mk 9 [(2, bV (decide (p0 ≤ 1099511627775)))] [] = mk 9 [(2, bV (bif (decide (p0 ≥ 0)) then (decide (p0 ≤ 1099511627775)) else false))] []
        first | rfl | (simp only [h1, cond_true, cond_false]) | (simp only [h1, cond_true, cond_false]; rfl)
      · refine ao_saysM (k := 5) (t := bV (decide (p0 ≥ 0))) (t' := bV false) (l1 := [(0, iV p0), (5, bV false)]) (by kernel_rfl) (by rw [h1]) (by kernel_rfl) ?_
        refine ao_someM [3, 4, 5, 6] [] tyOK (l1 := [(2, bV false)]) (by kernel_rfl) ?_
        refine ao_nil ?_
        show mk 9 [(2, bV false)] [] = mk 9 [(2, bV (bif (decide (p0 ≥ 0)) then (decide (p0 ≤ 1099511627775)) else false))] []
        first | rfl | (simp only [h1, cond_true, cond_false]) | (simp only [h1, cond_true, cond_false]; rfl)
    refine a_ret ?_
    obtain rfl := h
    exact end_eq (res' := bV (bif (decide (p0 ≥ 0)) then (decide (p0 ≤ 1099511627775)) else false)) (by kernel_rfl) (by first | rfl | simp)

noncomputable def s_NumText_F (recF : Int → Option (ByteArray)) (p0 : Int) : Option (ByteArray) :=
 bif (!(s_l01Num p0)) then
 (some ((⟨#[]⟩ : ByteArray)))
 else
 (bif (decide (p0 < 10)) then
 (some (byteB (IntKind.wrap .u8 (IntKind.wrap .i64 (48 + p0)))))
 else
 (bnd (recF (IntKind.wrap .i64 (Int.tdiv p0 10))) fun r1 =>
 chk ((r1.size + (byteB (IntKind.wrap .u8 (IntKind.wrap .i64 (48 + (Int.tmod p0 10))))).size ≤ 140737488355328)) <|
 some (r1 ++ (byteB (IntKind.wrap .u8 (IntKind.wrap .i64 (48 + (Int.tmod p0 10))))))))
set_option maxHeartbeats 4000000 in
/-- spec.NumText -/
theorem kF_s_NumText (recF : Int → Option (ByteArray)) (hrec : ∀ (p0 : Int) (v : ByteArray), recF p0 = some v → CallOK Try.prog 138 [iV p0] (sV v) []) (p0 : Int) (v : ByteArray) (h : s_NumText_F recF p0 = some v) : CallOK Try.prog 138 [iV p0] (sV v) [] :=
  callOK tyOK Try.func138 rfl fun w S hS => by
    unfold s_NumText_F at h
    refine a_seq ?_
    refine a_run [0] tyOK (st1 := mk 23 [(0, iV p0)] []) (by kernel_rfl) ?_
    refine a_seq ?_
    refine a_seq ?_
    refine a_ops [0, 1, 2] (by kernel_rfl) ?_
    refine ao_someM [0] [1, 2] tyOK (l1 := [(0, iV p0), (3, iV p0)]) (by kernel_rfl) ?_
    refine ao_enterM (f := 140) (d := 4) (A := [iV p0]) (l1 := [(0, iV p0), (4, bV (s_l01Num p0))]) (k_s_l01Num p0 _ rfl) Try.call140 (by kernel_rfl) (by kernel_rfl) (by kernel_rfl) ?_
    refine ao_someM [2] [] tyOK (l1 := [(0, iV p0), (5, bV (!(s_l01Num p0)))]) (by kernel_rfl) ?_
    refine ao_nil ?_
    refine a_cond (b := !(s_l01Num p0)) (by kernel_rfl) (fun h1 => ?_) (fun h1 => ?_)
    · replace h := cT h1 h
      refine a_seq ?_
      refine a_runM tyOK (l1 := [(2, sV ((⟨#[]⟩ : ByteArray)))]) (by kernel_rfl) ?_
      refine a_ret ?_
      obtain rfl := Option.some.inj h
      exact end_eq (res' := sV ((⟨#[]⟩ : ByteArray))) (by kernel_rfl) (by first | rfl | simp)
    · replace h := cF h1 h
      refine a_skip ?_
      refine a_seq ?_
      refine a_seq ?_
      refine a_runM tyOK (l1 := [(0, iV p0), (7, bV (decide (p0 < 10)))]) (by kernel_rfl) ?_
      refine a_cond (b := decide (p0 < 10)) (by kernel_rfl) (fun h2 => ?_) (fun h2 => ?_)
      · replace h := cT h2 h
        refine a_seq ?_
        refine a_runM tyOK (l1 := [(2, sV (byteB (IntKind.wrap .u8 (IntKind.wrap .i64 (48 + p0)))))]) (by kernel_rfl) ?_
        refine a_ret ?_
        obtain rfl := Option.some.inj h
        exact end_eq (res' := sV (byteB (IntKind.wrap .u8 (IntKind.wrap .i64 (48 + p0))))) (by kernel_rfl) (by first | rfl | simp)
      · replace h := cF h2 h
        refine a_skip ?_
        refine a_seq ?_
        obtain ⟨r1, er1, h⟩ := bnd_e h
        obtain ⟨c1, h⟩ := chk_e h
        refine a_mid (mk 23 [(2, sV (r1 ++ (byteB (IntKind.wrap .u8 (IntKind.wrap .i64 (48 + (Int.tmod p0 10)))))))] []) ?_ ?_
        · refine a_drawn (n := 11) [] (by kernel_rfl) (by kernel_rfl) ?_
          refine aa_with (fun K to of => ?_)
          have k1 : K 2 #[true, true, true, true, true, true, true, true, true, false, false] (mk 23 [(15, sV r1), (21, sV (byteB (IntKind.wrap .u8 (IntKind.wrap .i64 (48 + (Int.tmod p0 10))))))] []) := of (by
            refine aa_q (i := 9) (d := 22) (c := (r1.size + (byteB (IntKind.wrap .u8 (IntKind.wrap .i64 (48 + (Int.tmod p0 10))))).size ≤ 140737488355328)) (tv := sV (r1 ++ (byteB (IntKind.wrap .u8 (IntKind.wrap .i64 (48 + (Int.tmod p0 10))))))) (listed' := #[true, true, true, true, true, true, true, true, true, true, false]) (st1 := mk 23 [(22, sV (r1 ++ (byteB (IntKind.wrap .u8 (IntKind.wrap .i64 (48 + (Int.tmod p0 10)))))))] []) [22] tyOK (by kernel_rfl) (by kernel_rfl) (by exact c1) (by kernel_rfl) (by kernel_rfl) (by kernel_rfl) ?_
            refine aa_takeM (fuel := 0) (listed' := #[true, true, true, true, true, true, true, true, true, true, true]) (l1 := [(2, sV (r1 ++ (byteB (IntKind.wrap .u8 (IntKind.wrap .i64 (48 + (Int.tmod p0 10)))))))]) [10] tyOK (by kernel_rfl) (by kernel_rfl) (by kernel_rfl) ?_
            refine aa_done (by kernel_rfl) ?_
            show _ = _; kernel_rfl)
          have k2 : K 3 #[true, true, true, true, true, true, true, true, false, false, false] (mk 23 [(15, sV r1), (20, .one (.so [] 20 0 1))] [(20, [.sl 1 ([[.v (.int .u8 (IntKind.wrap .u8 (IntKind.wrap .i64 (48 + (Int.tmod p0 10)))))]])])]) := of (by
            refine aa_all [8] (by kernel_rfl) rfl ?_
            refine aa_cons ?_ aa_nil
            refine aone_any (listed' := #[true, true, true, true, true, true, true, true, true, false, false]) (st1 := mk 23 [(15, sV r1), (21, sV (byteB (IntKind.wrap .u8 (IntKind.wrap .i64 (48 + (Int.tmod p0 10))))))] []) [15, 21] tyOK (by kernel_rfl) (by kernel_rfl) ?_
            exact to k1)
          refine aa_takeM (fuel := 5) (listed' := #[true, true, false, true, true, true, true, false, false, false, false]) (l1 := [(14, iV (IntKind.wrap .i64 (Int.tdiv p0 10))), (19, .one (.c (.v (.int .u8 (IntKind.wrap .u8 (IntKind.wrap .i64 (48 + (Int.tmod p0 10))))))))]) [0, 1, 3, 4, 5, 6] tyOK (by kernel_rfl) (by kernel_rfl) (by kernel_rfl) ?_
          refine aa_all [2, 7] (by kernel_rfl) rfl ?_
          refine aa_cons ?_ ?_
          · refine aone_enterM (listed' := #[true, true, true, true, true, true, true, false, false, false, false]) (f := 138) (d := 15) (A := [iV (IntKind.wrap .i64 (Int.tdiv p0 10))]) (l1 := [(15, sV r1), (19, .one (.c (.v (.int .u8 (IntKind.wrap .u8 (IntKind.wrap .i64 (48 + (Int.tmod p0 10))))))))]) (hrec (IntKind.wrap .i64 (Int.tdiv p0 10)) r1 er1) Try.call138 (by kernel_rfl) (by kernel_rfl) (by kernel_rfl) (by kernel_rfl) ?_
            refine aa_all [7] (by kernel_rfl) rfl ?_
            refine aa_cons ?_ aa_nil
            refine aone_any (listed' := #[true, true, true, true, true, true, true, true, false, false, false]) (st1 := mk 23 [(15, sV r1), (20, .one (.so [] 20 0 1))] [(20, [.sl 1 ([[.v (.int .u8 (IntKind.wrap .u8 (IntKind.wrap .i64 (48 + (Int.tmod p0 10)))))]])])]) [15, 20] tyOK (by kernel_rfl) (by kernel_rfl) ?_
            exact to k2
          refine aa_cons ?_ aa_nil
          refine aone_any (listed' := #[true, true, false, true, true, true, true, true, false, false, false]) (st1 := mk 23 [(14, iV (IntKind.wrap .i64 (Int.tdiv p0 10))), (20, .one (.so [] 20 0 1))] [(20, [.sl 1 ([[.v (.int .u8 (IntKind.wrap .u8 (IntKind.wrap .i64 (48 + (Int.tmod p0 10)))))]])])]) [14, 20] tyOK (by kernel_rfl) (by kernel_rfl) ?_
          refine aa_all [2, 8] (by kernel_rfl) rfl ?_
          refine aa_cons ?_ ?_
          · refine aone_enterM (listed' := #[true, true, true, true, true, true, true, true, false, false, false]) (f := 138) (d := 15) (A := [iV (IntKind.wrap .i64 (Int.tdiv p0 10))]) (l1 := [(15, sV r1), (20, .one (.so [] 20 0 1))]) (hrec (IntKind.wrap .i64 (Int.tdiv p0 10)) r1 er1) Try.call138 (by kernel_rfl) (by kernel_rfl) (by kernel_rfl) (by kernel_rfl) ?_
            exact to k2
          refine aa_cons ?_ aa_nil
          refine aone_any (listed' := #[true, true, false, true, true, true, true, true, true, false, false]) (st1 := mk 23 [(14, iV (IntKind.wrap .i64 (Int.tdiv p0 10))), (21, sV (byteB (IntKind.wrap .u8 (IntKind.wrap .i64 (48 + (Int.tmod p0 10))))))] []) [14, 21] tyOK (by kernel_rfl) (by kernel_rfl) ?_
          refine aa_all [2] (by kernel_rfl) rfl ?_
          refine aa_cons ?_ aa_nil
          refine aone_enterM (listed' := #[true, true, true, true, true, true, true, true, true, false, false]) (f := 138) (d := 15) (A := [iV (IntKind.wrap .i64 (Int.tdiv p0 10))]) (l1 := [(15, sV r1), (21, sV (byteB (IntKind.wrap .u8 (IntKind.wrap .i64 (48 + (Int.tmod p0 10))))))]) (hrec (IntKind.wrap .i64 (Int.tdiv p0 10)) r1 er1) Try.call138 (by kernel_rfl) (by kernel_rfl) (by kernel_rfl) (by kernel_rfl) ?_
          exact to k1
        refine a_ret ?_
        obtain rfl := Option.some.inj h
        exact end_eq (res' := sV (r1 ++ (byteB (IntKind.wrap .u8 (IntKind.wrap .i64 (48 + (Int.tmod p0 10))))))) (by kernel_rfl) (by first | rfl | simp)
noncomputable def s_NumText_n : Nat → Int → Option (ByteArray)
  | 0 => fun _ => none
  | k + 1 => s_NumText_F (s_NumText_n k)
noncomputable def s_NumText (p0 : Int) : Option (ByteArray) := lim fun k => s_NumText_n k p0
theorem kn_s_NumText (k : Nat) : ∀ (p0 : Int) (v : ByteArray), s_NumText_n k p0 = some v → CallOK Try.prog 138 [iV p0] (sV v) [] := by
  induction k with
  | zero => intro p0 v h; cases h
  | succ k ih => intro p0 v h; exact kF_s_NumText _ ih p0 v h
theorem k_s_NumText (p0 : Int) (v : ByteArray) (h : s_NumText p0 = some v) : CallOK Try.prog 138 [iV p0] (sV v) [] := by
  obtain ⟨k, hk⟩ := lim_e h
  exact kn_s_NumText k p0 v hk

noncomputable def s_l02Key (p0 : L01Cur) : Option (L01Cur × ByteArray) :=
 bnd (s_l01Below p0 20) fun r1 =>
 bif (decide (r1.2 < 16)) then
 (bnd (getI ([(⟨#[97]⟩ : ByteArray), (⟨#[98]⟩ : ByteArray), (⟨#[99]⟩ : ByteArray), (⟨#[100]⟩ : ByteArray), (⟨#[101]⟩ : ByteArray), (⟨#[102]⟩ : ByteArray), (⟨#[103]⟩ : ByteArray), (⟨#[104]⟩ : ByteArray), (⟨#[107]⟩ : ByteArray), (⟨#[109]⟩ : ByteArray), (⟨#[112]⟩ : ByteArray), (⟨#[113]⟩ : ByteArray), (⟨#[97, 97]⟩ : ByteArray), (⟨#[97, 98]⟩ : ByteArray), (⟨#[120]⟩ : ByteArray), (⟨#[121]⟩ : ByteArray)]) r1.2) fun x1 =>
 some ((r1.1, x1)))
 else
 (bif ((r1.2 == 16)) then
 (some ((r1.1, (⟨#[0]⟩ : ByteArray))))
 else
 (bif ((r1.2 == 17)) then
 (some ((r1.1, (⟨#[122, 122, 122, 122, 122, 122, 122, 122, 122, 122, 122, 122, 122, 122, 122, 122]⟩ : ByteArray))))
 else
 (bnd (s_l01Below r1.1 30) fun r2 =>
 bnd (s_NumText r2.2) fun r3 =>
 chk ((((⟨#[107]⟩ : ByteArray)).size + r3.size ≤ 140737488355328)) <|
 some ((r2.1, ((⟨#[107]⟩ : ByteArray)) ++ r3)))))
set_option maxHeartbeats 4000000 in
/-- spec.l02Key -/
theorem k_s_l02Key (p0 : L01Cur) (v : L01Cur × ByteArray) (h : s_l02Key p0 = some v) : CallG Try.prog 128 [.bx [.fz (lC 1 eN_u8 p0.b), iC p0.i, iC p0.h]] [pV 0] [.bx [.fz (lC 1 eN_u8 v.1.b), iC v.1.i, iC v.1.h]] (sV v.2) [] :=
  callG tyOK Try.func128 rfl (by simp) fun w S γ hS => by
    unfold s_l02Key at h
    refine a_seq ?_
    refine a_run [0] tyOK (st1 := mk 20 [(0, pV 0)] [(0, [.bx [.fz (lC 1 eN_u8 p0.b), iC p0.i, iC p0.h]])]) (by kernel_rfl) ?_
    refine a_seq ?_
    refine a_ops [0, 1, 2] (by kernel_rfl) ?_
    refine ao_someM [0] [1, 2] tyOK (l1 := [(0, pV 0), (4, pV 0)]) (by kernel_rfl) ?_
    obtain ⟨r1, er1, h⟩ := bnd_e h
    refine ao_g2 (g := 55) (d := 5) (A := [pV 0, iV 20]) (A' := [pV 0, iV 20]) (cs := [.bx [.fz (lC 1 eN_u8 p0.b), iC p0.i, iC p0.h]]) (outs := [.bx [.fz (lC 1 eN_u8 r1.1.b), iC r1.1.i, iC r1.1.h]]) (ps := [[(0, 0)]]) (st1 := mk 20 [(0, pV 0), (5, iV r1.2)] [(0, [.bx [.fz (lC 1 eN_u8 r1.1.b), iC r1.1.i, iC r1.1.h]])]) [0, 5] (k_s_l01Below p0 20 r1 er1) Try.call55 (by kernel_rfl) (.cons (.one (.pl 0 rfl rfl)) (.cons (.one (.same rfl)) .nil)) (handedN_of (szs := [0]) (by kernel_rfl)) (by kernel_rfl) (.bx .nil) (wholeFIO _ _ _ _) (by kernel_rfl) (by kernel_rfl) ?_
    refine ao_someM [2] [] tyOK (l1 := [(0, pV 0), (3, iV r1.2)]) (by kernel_rfl) ?_
    refine ao_nil ?_
    refine a_seq ?_
    refine a_seq ?_
    refine a_runM tyOK (l1 := [(0, pV 0), (3, iV r1.2), (7, bV (decide (r1.2 < 16)))]) (by kernel_rfl) ?_
    refine a_cond (b := decide (r1.2 < 16)) (by kernel_rfl) (fun h1 => ?_) (fun h1 => ?_)
    · replace h := cT h1 h
      refine a_seq ?_
      refine a_ops [0, 1, 2, 3, 4] (by kernel_rfl) ?_
      refine ao_some [0, 1] [2, 3, 4] [0, 8, 9] tyOK (st1 := mk 20 [(0, pV 0), (8, .one (.so [] 8 0 16)), (9, iV r1.2)] [(0, [.bx [.fz (lC 1 eN_u8 r1.1.b), iC r1.1.i, iC r1.1.h]]), (8, [.sl 1 ([[sC ((⟨#[97]⟩ : ByteArray))], [sC ((⟨#[98]⟩ : ByteArray))], [sC ((⟨#[99]⟩ : ByteArray))], [sC ((⟨#[100]⟩ : ByteArray))], [sC ((⟨#[101]⟩ : ByteArray))], [sC ((⟨#[102]⟩ : ByteArray))], [sC ((⟨#[103]⟩ : ByteArray))], [sC ((⟨#[104]⟩ : ByteArray))], [sC ((⟨#[107]⟩ : ByteArray))], [sC ((⟨#[109]⟩ : ByteArray))], [sC ((⟨#[112]⟩ : ByteArray))], [sC ((⟨#[113]⟩ : ByteArray))], [sC ((⟨#[97, 97]⟩ : ByteArray))], [sC ((⟨#[97, 98]⟩ : ByteArray))], [sC ((⟨#[120]⟩ : ByteArray))], [sC ((⟨#[121]⟩ : ByteArray))]])])]) (by kernel_rfl) ?_
      obtain ⟨x1, ex1, h⟩ := bnd_e h
      refine ao_indexOwn (d := 10) (size := 1) (n0 := 16) (n := r1.2) (p := [(8, 0)]) (rows := [[sC ((⟨#[97]⟩ : ByteArray))], [sC ((⟨#[98]⟩ : ByteArray))], [sC ((⟨#[99]⟩ : ByteArray))], [sC ((⟨#[100]⟩ : ByteArray))], [sC ((⟨#[101]⟩ : ByteArray))], [sC ((⟨#[102]⟩ : ByteArray))], [sC ((⟨#[103]⟩ : ByteArray))], [sC ((⟨#[104]⟩ : ByteArray))], [sC ((⟨#[107]⟩ : ByteArray))], [sC ((⟨#[109]⟩ : ByteArray))], [sC ((⟨#[112]⟩ : ByteArray))], [sC ((⟨#[113]⟩ : ByteArray))], [sC ((⟨#[97, 97]⟩ : ByteArray))], [sC ((⟨#[97, 98]⟩ : ByteArray))], [sC ((⟨#[120]⟩ : ByteArray))], [sC ((⟨#[121]⟩ : ByteArray))]]) (st1 := mk 20 [(0, pV 0), (10, .one (.pl [(8, 0)] ((r1.2).toNat) 0))] [(0, [.bx [.fz (lC 1 eN_u8 r1.1.b), iC r1.1.i, iC r1.1.h]]), (8, [.sl 1 ([[sC ((⟨#[97]⟩ : ByteArray))], [sC ((⟨#[98]⟩ : ByteArray))], [sC ((⟨#[99]⟩ : ByteArray))], [sC ((⟨#[100]⟩ : ByteArray))], [sC ((⟨#[101]⟩ : ByteArray))], [sC ((⟨#[102]⟩ : ByteArray))], [sC ((⟨#[103]⟩ : ByteArray))], [sC ((⟨#[104]⟩ : ByteArray))], [sC ((⟨#[107]⟩ : ByteArray))], [sC ((⟨#[109]⟩ : ByteArray))], [sC ((⟨#[112]⟩ : ByteArray))], [sC ((⟨#[113]⟩ : ByteArray))], [sC ((⟨#[97, 97]⟩ : ByteArray))], [sC ((⟨#[97, 98]⟩ : ByteArray))], [sC ((⟨#[120]⟩ : ByteArray))], [sC ((⟨#[121]⟩ : ByteArray))]])])]) [sC x1] [0, 10] tyOK (by kernel_rfl) (by simpa using getI_both ex1) (by exact get_map (en := eStr) (getI_e ex1).2) (by kernel_rfl) (by kernel_rfl) ?_
      refine ao_P (d := 11) (op := .load 9 (.tmp 10)) (tv := sV x1) (st1 := mk 20 [(0, pV 0), (11, sV x1)] [(0, [.bx [.fz (lC 1 eN_u8 r1.1.b), iC r1.1.i, iC r1.1.h]])]) [0, 11] tyOK (by kernel_rfl) (stepP_loadOwn (size := 1) (n := ((r1.2).toNat)) (f := 0) (agg := false) (p := [(8, 0)]) (rows := [[sC ((⟨#[97]⟩ : ByteArray))], [sC ((⟨#[98]⟩ : ByteArray))], [sC ((⟨#[99]⟩ : ByteArray))], [sC ((⟨#[100]⟩ : ByteArray))], [sC ((⟨#[101]⟩ : ByteArray))], [sC ((⟨#[102]⟩ : ByteArray))], [sC ((⟨#[103]⟩ : ByteArray))], [sC ((⟨#[104]⟩ : ByteArray))], [sC ((⟨#[107]⟩ : ByteArray))], [sC ((⟨#[109]⟩ : ByteArray))], [sC ((⟨#[112]⟩ : ByteArray))], [sC ((⟨#[113]⟩ : ByteArray))], [sC ((⟨#[97, 97]⟩ : ByteArray))], [sC ((⟨#[97, 98]⟩ : ByteArray))], [sC ((⟨#[120]⟩ : ByteArray))], [sC ((⟨#[121]⟩ : ByteArray))]]) [sC x1] (by kernel_rfl) (get_map (en := eStr) (getI_e ex1).2) (by kernel_rfl) (by kernel_rfl)) (by kernel_rfl) ?_
      refine ao_someM [4] [] tyOK (l1 := [(0, pV 0), (2, sV x1)]) (by kernel_rfl) ?_
      refine ao_nil ?_
      refine a_ret ?_
      obtain rfl := Option.some.inj h
      exact end_g (ob := []) (outs' := [.bx [.fz (lC 1 eN_u8 r1.1.b), iC r1.1.i, iC r1.1.h]]) (res' := sV x1) (row' := []) (by kernel_rfl) trivial (by first | rfl | simp) (by first | rfl | simp) (by first | rfl | simp)
    · replace h := cF h1 h
      refine a_skip ?_
      refine a_seq ?_
      refine a_seq ?_
      refine a_runM tyOK (l1 := [(0, pV 0), (3, iV r1.2), (13, bV ((r1.2 == 16)))]) (by kernel_rfl) ?_
      refine a_cond (b := (r1.2 == 16)) (by kernel_rfl) (fun h2 => ?_) (fun h2 => ?_)
      · replace h := cT h2 h
        refine a_seq ?_
        refine a_runM tyOK (l1 := [(0, pV 0), (2, sV ((⟨#[0]⟩ : ByteArray)))]) (by kernel_rfl) ?_
        refine a_ret ?_
        obtain rfl := Option.some.inj h
        exact end_g (ob := []) (outs' := [.bx [.fz (lC 1 eN_u8 r1.1.b), iC r1.1.i, iC r1.1.h]]) (res' := sV ((⟨#[0]⟩ : ByteArray))) (row' := []) (by kernel_rfl) trivial (by first | rfl | simp) (by first | rfl | simp) (by first | rfl | simp)
      · replace h := cF h2 h
        refine a_skip ?_
        refine a_seq ?_
        refine a_seq ?_
        refine a_runM tyOK (l1 := [(0, pV 0), (15, bV ((r1.2 == 17)))]) (by kernel_rfl) ?_
        refine a_cond (b := (r1.2 == 17)) (by kernel_rfl) (fun h3 => ?_) (fun h3 => ?_)
        · replace h := cT h3 h
          refine a_seq ?_
          refine a_runM tyOK (l1 := [(0, pV 0), (2, sV ((⟨#[122, 122, 122, 122, 122, 122, 122, 122, 122, 122, 122, 122, 122, 122, 122, 122]⟩ : ByteArray)))]) (by kernel_rfl) ?_
          refine a_ret ?_
          obtain rfl := Option.some.inj h
          exact end_g (ob := []) (outs' := [.bx [.fz (lC 1 eN_u8 r1.1.b), iC r1.1.i, iC r1.1.h]]) (res' := sV ((⟨#[122, 122, 122, 122, 122, 122, 122, 122, 122, 122, 122, 122, 122, 122, 122, 122]⟩ : ByteArray))) (row' := []) (by kernel_rfl) trivial (by first | rfl | simp) (by first | rfl | simp) (by first | rfl | simp)
        · replace h := cF h3 h
          refine a_skip ?_
          refine a_seq ?_
          refine a_ops [0, 1, 2, 3, 4] (by kernel_rfl) ?_
          refine ao_someM [0] [1, 2, 3, 4] tyOK (l1 := [(0, pV 0), (16, pV 0)]) (by kernel_rfl) ?_
          obtain ⟨r2, er2, h⟩ := bnd_e h
          refine ao_g2 (g := 55) (d := 17) (A := [pV 0, iV 30]) (A' := [pV 0, iV 30]) (cs := [.bx [.fz (lC 1 eN_u8 r1.1.b), iC r1.1.i, iC r1.1.h]]) (outs := [.bx [.fz (lC 1 eN_u8 r2.1.b), iC r2.1.i, iC r2.1.h]]) (ps := [[(0, 0)]]) (st1 := mk 20 [(0, pV 0), (17, iV r2.2)] [(0, [.bx [.fz (lC 1 eN_u8 r2.1.b), iC r2.1.i, iC r2.1.h]])]) [0, 17] (k_s_l01Below r1.1 30 r2 er2) Try.call55 (by kernel_rfl) (.cons (.one (.pl 0 rfl rfl)) (.cons (.one (.same rfl)) .nil)) (handedN_of (szs := [0]) (by kernel_rfl)) (by kernel_rfl) (.bx .nil) (wholeFIO _ _ _ _) (by kernel_rfl) (by kernel_rfl) ?_
          obtain ⟨r3, er3, h⟩ := bnd_e h
          refine ao_enterM (f := 138) (d := 18) (A := [iV r2.2]) (l1 := [(0, pV 0), (18, sV r3)]) (k_s_NumText r2.2 r3 er3) Try.call138 (by kernel_rfl) (by kernel_rfl) (by kernel_rfl) ?_
          obtain ⟨c1, h⟩ := chk_e h
          refine ao_q (d := 19) (c := (((⟨#[107]⟩ : ByteArray)).size + r3.size ≤ 140737488355328)) (tv := sV (((⟨#[107]⟩ : ByteArray)) ++ r3)) (st1 := mk 20 [(0, pV 0), (19, sV (((⟨#[107]⟩ : ByteArray)) ++ r3))] [(0, [.bx [.fz (lC 1 eN_u8 r2.1.b), iC r2.1.i, iC r2.1.h]])]) [0, 19] tyOK (by kernel_rfl) (by exact c1) (by kernel_rfl) ?_
          refine ao_someM [4] [] tyOK (l1 := [(0, pV 0), (2, sV (((⟨#[107]⟩ : ByteArray)) ++ r3))]) (by kernel_rfl) ?_
          refine ao_nil ?_
          refine a_ret ?_
          obtain rfl := Option.some.inj h
          exact end_g (ob := []) (outs' := [.bx [.fz (lC 1 eN_u8 r2.1.b), iC r2.1.i, iC r2.1.h]]) (res' := sV (((⟨#[107]⟩ : ByteArray)) ++ r3)) (row' := []) (by kernel_rfl) trivial (by first | rfl | simp) (by first | rfl | simp) (by first | rfl | simp)

noncomputable def s_KeyOk (p0 : ByteArray) : Bool :=
 bif (decide (((p0.size : Int)) ≥ 1)) then (decide (((p0.size : Int)) ≤ 16)) else false
set_option maxHeartbeats 4000000 in
/-- spec.KeyOk -/
theorem k_s_KeyOk (p0 : ByteArray) (v : Bool) (h : s_KeyOk p0 = v) : CallOK Try.prog 87 [sV p0] (bV v) [] :=
  callOK tyOK Try.func87 rfl fun w S hS => by
    unfold s_KeyOk at h
    refine a_seq ?_
    refine a_run [0] tyOK (st1 := mk 11 [(0, sV p0)] []) (by kernel_rfl) ?_
    refine a_seq ?_
    refine a_mid (mk 11 [(2, bV (bif (decide (((p0.size : Int)) ≥ 1)) then (decide (((p0.size : Int)) ≤ 16)) else false))] []) ?_ ?_
    · refine a_ops [0, 1, 2, 3, 4, 5, 6, 7, 8] (by kernel_rfl) ?_
      refine ao_someM [0, 1, 2, 3] [4, 5, 6, 7, 8] tyOK (l1 := [(0, sV p0), (6, bV (decide (((p0.size : Int)) ≥ 1)))]) (by kernel_rfl) ?_
      rcases Bool.eq_false_or_eq_true (decide (((p0.size : Int)) ≥ 1)) with h1 | h1
      · refine ao_saysM (k := 6) (t := bV (decide (((p0.size : Int)) ≥ 1))) (t' := bV true) (l1 := [(0, sV p0), (6, bV true)]) (by kernel_rfl) (by rw [h1]) (by kernel_rfl) ?_
        refine ao_someM [4, 5, 6, 7, 8] [] tyOK (l1 := [(2, bV (decide (((p0.size : Int)) ≤ 16)))]) (by kernel_rfl) ?_
        refine ao_nil ?_
        show mk 11 [(2, bV (decide (((p0.size : Int)) ≤ 16)))] [] = mk 11 [(2, bV (bif (decide (((p0.size : Int)) ≥ 1)) then (decide (((p0.size : Int)) ≤ 16)) else false))] []
        first | rfl | (simp only [h1, cond_true, cond_false]) | (simp only [h1, cond_true, cond_false]; rfl)
      · refine ao_saysM (k := 6) (t := bV (decide (((p0.size : Int)) ≥ 1))) (t' := bV false) (l1 := [(0, sV p0), (6, bV false)]) (by kernel_rfl) (by rw [h1]) (by kernel_rfl) ?_
        refine ao_someM [4, 5, 6, 7, 8] [] tyOK (l1 := [(2, bV false)]) (by kernel_rfl) ?_
        refine ao_nil ?_
        show mk 11 [(2, bV false)] [] = mk 11 [(2, bV (bif (decide (((p0.size : Int)) ≥ 1)) then (decide (((p0.size : Int)) ≤ 16)) else false))] []
        first | rfl | (simp only [h1, cond_true, cond_false]) | (simp only [h1, cond_true, cond_false]; rfl)
    refine a_ret ?_
    obtain rfl := h
    exact end_eq (res' := bV (bif (decide (((p0.size : Int)) ≥ 1)) then (decide (((p0.size : Int)) ≤ 16)) else false)) (by kernel_rfl) (by first | rfl | simp)

noncomputable def s_PointOf (p0 : ByteArray) : Option (Range) :=
 bif (!(s_KeyOk p0)) then
 (some ((⟨(⟨#[]⟩ : ByteArray), (⟨#[]⟩ : ByteArray)⟩ : Range)))
 else
 (chk ((p0.size + ((⟨#[0]⟩ : ByteArray)).size ≤ 140737488355328)) <|
 some ((⟨p0, p0 ++ ((⟨#[0]⟩ : ByteArray))⟩ : Range)))
set_option maxHeartbeats 4000000 in
/-- spec.PointOf -/
theorem k_s_PointOf (p0 : ByteArray) (v : Range) (h : s_PointOf p0 = some v) : CallOK Try.prog 129 [sV p0] (.agg [.c (sC v.lo), .c (sC v.hi)]) [] :=
  callOK tyOK Try.func129 rfl fun w S hS => by
    unfold s_PointOf at h
    refine a_seq ?_
    refine a_run [0, 2] tyOK (st1 := mk 11 [(0, sV p0), (2, pV 2)] [(2, [.bx [sC ((⟨#[]⟩ : ByteArray)), sC ((⟨#[]⟩ : ByteArray))]])]) (by kernel_rfl) ?_
    refine a_seq ?_
    refine a_seq ?_
    refine a_ops [0, 1, 2] (by kernel_rfl) ?_
    refine ao_someM [0] [1, 2] tyOK (l1 := [(0, sV p0), (2, pV 2), (3, sV p0)]) (by kernel_rfl) ?_
    refine ao_enterM (f := 87) (d := 4) (A := [sV p0]) (l1 := [(0, sV p0), (2, pV 2), (4, bV (s_KeyOk p0))]) (k_s_KeyOk p0 _ rfl) Try.call87 (by kernel_rfl) (by kernel_rfl) (by kernel_rfl) ?_
    refine ao_someM [2] [] tyOK (l1 := [(0, sV p0), (2, pV 2), (5, bV (!(s_KeyOk p0)))]) (by kernel_rfl) ?_
    refine ao_nil ?_
    refine a_cond (b := !(s_KeyOk p0)) (by kernel_rfl) (fun h1 => ?_) (fun h1 => ?_)
    · replace h := cT h1 h
      refine a_seq ?_
      refine a_runM tyOK (l1 := [(2, pV 2)]) (by kernel_rfl) ?_
      refine a_ret ?_
      obtain rfl := Option.some.inj h
      exact end_eq (res' := .agg [.c (sC ((⟨#[]⟩ : ByteArray))), .c (sC ((⟨#[]⟩ : ByteArray)))]) (by kernel_rfl) (by first | rfl | simp)
    · replace h := cF h1 h
      refine a_skip ?_
      refine a_seq ?_
      refine a_ops [0, 1, 2, 3, 4] (by kernel_rfl) ?_
      refine ao_someM [0, 1] [2, 3, 4] tyOK (l1 := [(2, pV 2), (7, sV p0), (8, sV p0)]) (by kernel_rfl) ?_
      obtain ⟨c1, h⟩ := chk_e h
      refine ao_q (d := 9) (c := (p0.size + ((⟨#[0]⟩ : ByteArray)).size ≤ 140737488355328)) (tv := sV (p0 ++ ((⟨#[0]⟩ : ByteArray)))) (st1 := mk 11 [(2, pV 2), (7, sV p0), (9, sV (p0 ++ ((⟨#[0]⟩ : ByteArray))))] [(2, [.bx [sC ((⟨#[]⟩ : ByteArray)), sC ((⟨#[]⟩ : ByteArray))]])]) [2, 7, 9] tyOK (by kernel_rfl) (by exact c1) (by kernel_rfl) ?_
      refine ao_some [3, 4] [] [2] tyOK (st1 := mk 11 [(2, pV 2)] [(2, [.bx [sC p0, sC (p0 ++ ((⟨#[0]⟩ : ByteArray)))]])]) (by kernel_rfl) ?_
      refine ao_nil ?_
      refine a_ret ?_
      obtain rfl := Option.some.inj h
      exact end_eq (res' := .agg [.c (sC p0), .c (sC (p0 ++ ((⟨#[0]⟩ : ByteArray))))]) (by kernel_rfl) (by first | rfl | simp)


end Go.Proofs.Ytagoajkiccgmjaa
namespace Go.Proofs.Ytagoajkiccgmjaa
open Go.Mv Go.RowKit
noncomputable def s_l02Range (p0 : L01Cur) : Option (L01Cur × Range) :=
 bnd (s_l02Key p0) fun r1 =>
 bnd (s_l02Key r1.1) fun r2 =>
 bnd (s_l01Below r2.1 6) fun r3 =>
 bif ((r3.2 == 0)) then
 (some ((r3.1, (⟨(⟨#[]⟩ : ByteArray), (⟨#[]⟩ : ByteArray)⟩ : Range))))
 else
 (bif ((r3.2 == 1)) then
 (some ((r3.1, (⟨r1.2, (⟨#[]⟩ : ByteArray)⟩ : Range))))
 else
 (bif (bif ((r3.2 == 2)) then true else ((r1.2.toList == r2.2.toList))) then
 (bnd (s_PointOf r1.2) fun r4 =>
 some ((r3.1, r4)))
 else
 (bif (!(Op.bytesLess r1.2.toList r2.2.toList || r1.2.toList == r2.2.toList)) then
 (some ((r3.1, (⟨r2.2, r1.2⟩ : Range))))
 else
 (some ((r3.1, (⟨r1.2, r2.2⟩ : Range)))))))
set_option maxHeartbeats 4000000 in
/-- spec.l02Range -/
theorem k_s_l02Range (p0 : L01Cur) (v : L01Cur × Range) (h : s_l02Range p0 = some v) : CallG Try.prog 98 [.bx [.fz (lC 1 eN_u8 p0.b), iC p0.i, iC p0.h]] [pV 0] [.bx [.fz (lC 1 eN_u8 v.1.b), iC v.1.i, iC v.1.h]] (.agg [.c (sC v.2.lo), .c (sC v.2.hi)]) [] :=
  callG tyOK Try.func98 rfl (by simp) fun w S γ hS => by
    unfold s_l02Range at h
    refine a_seq ?_
    refine a_run [0, 2] tyOK (st1 := mk 37 [(0, pV 0), (2, pV 2)] [(0, [.bx [.fz (lC 1 eN_u8 p0.b), iC p0.i, iC p0.h]]), (2, [.bx [sC ((⟨#[]⟩ : ByteArray)), sC ((⟨#[]⟩ : ByteArray))]])]) (by kernel_rfl) ?_
    refine a_seq ?_
    refine a_ops [0, 1, 2] (by kernel_rfl) ?_
    refine ao_someM [0] [1, 2] tyOK (l1 := [(0, pV 0), (2, pV 2), (6, pV 0)]) (by kernel_rfl) ?_
    obtain ⟨r1, er1, h⟩ := bnd_e h
    refine ao_g2 (g := 128) (d := 7) (A := [pV 0]) (A' := [pV 0]) (cs := [.bx [.fz (lC 1 eN_u8 p0.b), iC p0.i, iC p0.h]]) (outs := [.bx [.fz (lC 1 eN_u8 r1.1.b), iC r1.1.i, iC r1.1.h]]) (ps := [[(0, 0)]]) (st1 := mk 37 [(0, pV 0), (2, pV 2), (7, sV r1.2)] [(0, [.bx [.fz (lC 1 eN_u8 r1.1.b), iC r1.1.i, iC r1.1.h]]), (2, [.bx [sC ((⟨#[]⟩ : ByteArray)), sC ((⟨#[]⟩ : ByteArray))]])]) [0, 2, 7] (k_s_l02Key p0 r1 er1) Try.call128 (by kernel_rfl) (.cons (.one (.pl 0 rfl rfl)) .nil) (handedN_of (szs := [0]) (by kernel_rfl)) (by kernel_rfl) (.bx .nil) (wholeFIO _ _ _ _) (by kernel_rfl) (by kernel_rfl) ?_
    refine ao_someM [2] [] tyOK (l1 := [(0, pV 0), (2, pV 2), (3, sV r1.2)]) (by kernel_rfl) ?_
    refine ao_nil ?_
    refine a_seq ?_
    refine a_ops [0, 1, 2] (by kernel_rfl) ?_
    refine ao_someM [0] [1, 2] tyOK (l1 := [(0, pV 0), (2, pV 2), (3, sV r1.2), (8, pV 0)]) (by kernel_rfl) ?_
    obtain ⟨r2, er2, h⟩ := bnd_e h
    refine ao_g2 (g := 128) (d := 9) (A := [pV 0]) (A' := [pV 0]) (cs := [.bx [.fz (lC 1 eN_u8 r1.1.b), iC r1.1.i, iC r1.1.h]]) (outs := [.bx [.fz (lC 1 eN_u8 r2.1.b), iC r2.1.i, iC r2.1.h]]) (ps := [[(0, 0)]]) (st1 := mk 37 [(0, pV 0), (2, pV 2), (3, sV r1.2), (9, sV r2.2)] [(0, [.bx [.fz (lC 1 eN_u8 r2.1.b), iC r2.1.i, iC r2.1.h]]), (2, [.bx [sC ((⟨#[]⟩ : ByteArray)), sC ((⟨#[]⟩ : ByteArray))]])]) [0, 2, 3, 9] (k_s_l02Key r1.1 r2 er2) Try.call128 (by kernel_rfl) (.cons (.one (.pl 0 rfl rfl)) .nil) (handedN_of (szs := [0]) (by kernel_rfl)) (by kernel_rfl) (.bx .nil) (wholeFIO _ _ _ _) (by kernel_rfl) (by kernel_rfl) ?_
    refine ao_someM [2] [] tyOK (l1 := [(0, pV 0), (2, pV 2), (3, sV r1.2), (4, sV r2.2)]) (by kernel_rfl) ?_
    refine ao_nil ?_
    refine a_seq ?_
    refine a_ops [0, 1, 2] (by kernel_rfl) ?_
    refine ao_someM [0] [1, 2] tyOK (l1 := [(0, pV 0), (2, pV 2), (3, sV r1.2), (4, sV r2.2), (10, pV 0)]) (by kernel_rfl) ?_
    obtain ⟨r3, er3, h⟩ := bnd_e h
    refine ao_g2 (g := 55) (d := 11) (A := [pV 0, iV 6]) (A' := [pV 0, iV 6]) (cs := [.bx [.fz (lC 1 eN_u8 r2.1.b), iC r2.1.i, iC r2.1.h]]) (outs := [.bx [.fz (lC 1 eN_u8 r3.1.b), iC r3.1.i, iC r3.1.h]]) (ps := [[(0, 0)]]) (st1 := mk 37 [(0, pV 0), (2, pV 2), (3, sV r1.2), (4, sV r2.2), (11, iV r3.2)] [(0, [.bx [.fz (lC 1 eN_u8 r3.1.b), iC r3.1.i, iC r3.1.h]]), (2, [.bx [sC ((⟨#[]⟩ : ByteArray)), sC ((⟨#[]⟩ : ByteArray))]])]) [0, 2, 3, 4, 11] (k_s_l01Below r2.1 6 r3 er3) Try.call55 (by kernel_rfl) (.cons (.one (.pl 0 rfl rfl)) (.cons (.one (.same rfl)) .nil)) (handedN_of (szs := [0]) (by kernel_rfl)) (by kernel_rfl) (.bx .nil) (wholeFIO _ _ _ _) (by kernel_rfl) (by kernel_rfl) ?_
    refine ao_someM [2] [] tyOK (l1 := [(0, pV 0), (2, pV 2), (3, sV r1.2), (4, sV r2.2), (5, iV r3.2)]) (by kernel_rfl) ?_
    refine ao_nil ?_
    refine a_seq ?_
    refine a_seq ?_
    refine a_runM tyOK (l1 := [(0, pV 0), (2, pV 2), (3, sV r1.2), (4, sV r2.2), (5, iV r3.2), (13, bV ((r3.2 == 0)))]) (by kernel_rfl) ?_
    refine a_cond (b := (r3.2 == 0)) (by kernel_rfl) (fun h1 => ?_) (fun h1 => ?_)
    · replace h := cT h1 h
      refine a_seq ?_
      refine a_runM tyOK (l1 := [(0, pV 0), (2, pV 2)]) (by kernel_rfl) ?_
      refine a_ret ?_
      obtain rfl := Option.some.inj h
      exact end_g (ob := []) (outs' := [.bx [.fz (lC 1 eN_u8 r3.1.b), iC r3.1.i, iC r3.1.h]]) (res' := .agg [.c (sC ((⟨#[]⟩ : ByteArray))), .c (sC ((⟨#[]⟩ : ByteArray)))]) (row' := []) (by kernel_rfl) trivial (by first | rfl | simp) (by first | rfl | simp) (by first | rfl | simp)
    · replace h := cF h1 h
      refine a_skip ?_
      refine a_seq ?_
      refine a_seq ?_
      refine a_runM tyOK (l1 := [(0, pV 0), (2, pV 2), (3, sV r1.2), (4, sV r2.2), (5, iV r3.2), (16, bV ((r3.2 == 1)))]) (by kernel_rfl) ?_
      refine a_cond (b := (r3.2 == 1)) (by kernel_rfl) (fun h2 => ?_) (fun h2 => ?_)
      · replace h := cT h2 h
        refine a_seq ?_
        refine a_run [0, 2] tyOK (st1 := mk 37 [(0, pV 0), (2, pV 2)] [(0, [.bx [.fz (lC 1 eN_u8 r3.1.b), iC r3.1.i, iC r3.1.h]]), (2, [.bx [sC r1.2, sC ((⟨#[]⟩ : ByteArray))]])]) (by kernel_rfl) ?_
        refine a_ret ?_
        obtain rfl := Option.some.inj h
        exact end_g (ob := []) (outs' := [.bx [.fz (lC 1 eN_u8 r3.1.b), iC r3.1.i, iC r3.1.h]]) (res' := .agg [.c (sC r1.2), .c (sC ((⟨#[]⟩ : ByteArray)))]) (row' := []) (by kernel_rfl) trivial (by first | rfl | simp) (by first | rfl | simp) (by first | rfl | simp)
      · replace h := cF h2 h
        refine a_skip ?_
        refine a_seq ?_
        refine a_seq ?_
        refine a_mid (mk 37 [(0, pV 0), (2, pV 2), (3, sV r1.2), (4, sV r2.2), (25, bV (bif ((r3.2 == 2)) then true else ((r1.2.toList == r2.2.toList))))] [(0, [.bx [.fz (lC 1 eN_u8 r3.1.b), iC r3.1.i, iC r3.1.h]]), (2, [.bx [sC ((⟨#[]⟩ : ByteArray)), sC ((⟨#[]⟩ : ByteArray))]])]) ?_ ?_
        · refine a_ops [0, 1, 2, 3, 4, 5, 6] (by kernel_rfl) ?_
          refine ao_someM [0, 1, 2] [3, 4, 5, 6] tyOK (l1 := [(0, pV 0), (2, pV 2), (3, sV r1.2), (4, sV r2.2), (21, bV ((r3.2 == 2)))]) (by kernel_rfl) ?_
          rcases Bool.eq_false_or_eq_true ((r3.2 == 2)) with h3 | h3
          · refine ao_saysM (k := 21) (t := bV ((r3.2 == 2))) (t' := bV true) (l1 := [(0, pV 0), (2, pV 2), (3, sV r1.2), (4, sV r2.2), (21, bV true)]) (by kernel_rfl) (by rw [h3]) (by kernel_rfl) ?_
            refine ao_someM [3, 4, 5, 6] [] tyOK (l1 := [(0, pV 0), (2, pV 2), (3, sV r1.2), (4, sV r2.2), (25, bV true)]) (by kernel_rfl) ?_
            refine ao_nil ?_
            show mk 37 [(0, pV 0), (2, pV 2), (3, sV r1.2), (4, sV r2.2), (25, bV true)] [(0, [.bx [.fz (lC 1 eN_u8 r3.1.b), iC r3.1.i, iC r3.1.h]]), (2, [.bx [sC ((⟨#[]⟩ : ByteArray)), sC ((⟨#[]⟩ : ByteArray))]])] = mk 37 [(0, pV 0), (2, pV 2), (3, sV r1.2), (4, sV r2.2), (25, bV (bif ((r3.2 == 2)) then true else ((r1.2.toList == r2.2.toList))))] [(0, [.bx [.fz (lC 1 eN_u8 r3.1.b), iC r3.1.i, iC r3.1.h]]), (2, [.bx [sC ((⟨#[]⟩ : ByteArray)), sC ((⟨#[]⟩ : ByteArray))]])]
            first | rfl | (simp only [h3, cond_true, cond_false]) | (simp only [h3, cond_true, cond_false]; rfl)
          · refine ao_saysM (k := 21) (t := bV ((r3.2 == 2))) (t' := bV false) (l1 := [(0, pV 0), (2, pV 2), (3, sV r1.2), (4, sV r2.2), (21, bV false)]) (by kernel_rfl) (by rw [h3]) (by kernel_rfl) ?_
            refine ao_someM [3, 4, 5, 6] [] tyOK (l1 := [(0, pV 0), (2, pV 2), (3, sV r1.2), (4, sV r2.2), (25, bV ((r1.2.toList == r2.2.toList)))]) (by kernel_rfl) ?_
            refine ao_nil ?_
            show mk 37 [(0, pV 0), (2, pV 2), (3, sV r1.2), (4, sV r2.2), (25, bV ((r1.2.toList == r2.2.toList)))] [(0, [.bx [.fz (lC 1 eN_u8 r3.1.b), iC r3.1.i, iC r3.1.h]]), (2, [.bx [sC ((⟨#[]⟩ : ByteArray)), sC ((⟨#[]⟩ : ByteArray))]])] = mk 37 [(0, pV 0), (2, pV 2), (3, sV r1.2), (4, sV r2.2), (25, bV (bif ((r3.2 == 2)) then true else ((r1.2.toList == r2.2.toList))))] [(0, [.bx [.fz (lC 1 eN_u8 r3.1.b), iC r3.1.i, iC r3.1.h]]), (2, [.bx [sC ((⟨#[]⟩ : ByteArray)), sC ((⟨#[]⟩ : ByteArray))]])]
            first | rfl | (simp only [h3, cond_true, cond_false]) | (simp only [h3, cond_true, cond_false]; rfl)
        refine a_cond (b := bif ((r3.2 == 2)) then true else ((r1.2.toList == r2.2.toList))) (by kernel_rfl) (fun h3 => ?_) (fun h3 => ?_)
        · replace h := cT h3 h
          refine a_seq ?_
          refine a_ops [0, 1, 2] (by kernel_rfl) ?_
          refine ao_someM [0] [1, 2] tyOK (l1 := [(0, pV 0), (2, pV 2), (26, sV r1.2)]) (by kernel_rfl) ?_
          obtain ⟨r4, er4, h⟩ := bnd_e h
          refine ao_enterM (f := 129) (d := 27) (A := [sV r1.2]) (l1 := [(0, pV 0), (2, pV 2), (27, .agg [.c (sC r4.lo), .c (sC r4.hi)])]) (k_s_PointOf r1.2 r4 er4) Try.call129 (by kernel_rfl) (by kernel_rfl) (by kernel_rfl) ?_
          refine ao_some [2] [] [0, 2] tyOK (st1 := mk 37 [(0, pV 0), (2, pV 2)] [(0, [.bx [.fz (lC 1 eN_u8 r3.1.b), iC r3.1.i, iC r3.1.h]]), (2, [.bx [sC r4.lo, sC r4.hi]])]) (by kernel_rfl) ?_
          refine ao_nil ?_
          refine a_ret ?_
          obtain rfl := Option.some.inj h
          exact end_g (ob := []) (outs' := [.bx [.fz (lC 1 eN_u8 r3.1.b), iC r3.1.i, iC r3.1.h]]) (res' := .agg [.c (sC r4.lo), .c (sC r4.hi)]) (row' := []) (by kernel_rfl) trivial (by first | rfl | simp) (by first | rfl | simp) (by first | rfl | simp)
        · replace h := cF h3 h
          refine a_skip ?_
          refine a_seq ?_
          refine a_seq ?_
          refine a_runM tyOK (l1 := [(0, pV 0), (2, pV 2), (3, sV r1.2), (4, sV r2.2), (30, bV (!(Op.bytesLess r1.2.toList r2.2.toList || r1.2.toList == r2.2.toList)))]) (by kernel_rfl) ?_
          refine a_cond (b := !(Op.bytesLess r1.2.toList r2.2.toList || r1.2.toList == r2.2.toList)) (by kernel_rfl) (fun h4 => ?_) (fun h4 => ?_)
          · replace h := cT h4 h
            refine a_seq ?_
            refine a_run [0, 2] tyOK (st1 := mk 37 [(0, pV 0), (2, pV 2)] [(0, [.bx [.fz (lC 1 eN_u8 r3.1.b), iC r3.1.i, iC r3.1.h]]), (2, [.bx [sC r2.2, sC r1.2]])]) (by kernel_rfl) ?_
            refine a_ret ?_
            obtain rfl := Option.some.inj h
            exact end_g (ob := []) (outs' := [.bx [.fz (lC 1 eN_u8 r3.1.b), iC r3.1.i, iC r3.1.h]]) (res' := .agg [.c (sC r2.2), .c (sC r1.2)]) (row' := []) (by kernel_rfl) trivial (by first | rfl | simp) (by first | rfl | simp) (by first | rfl | simp)
          · replace h := cF h4 h
            refine a_skip ?_
            refine a_seq ?_
            refine a_run [0, 2] tyOK (st1 := mk 37 [(0, pV 0), (2, pV 2)] [(0, [.bx [.fz (lC 1 eN_u8 r3.1.b), iC r3.1.i, iC r3.1.h]]), (2, [.bx [sC r1.2, sC r2.2]])]) (by kernel_rfl) ?_
            refine a_ret ?_
            obtain rfl := Option.some.inj h
            exact end_g (ob := []) (outs' := [.bx [.fz (lC 1 eN_u8 r3.1.b), iC r3.1.i, iC r3.1.h]]) (res' := .agg [.c (sC r1.2), .c (sC r2.2)]) (row' := []) (by kernel_rfl) trivial (by first | rfl | simp) (by first | rfl | simp) (by first | rfl | simp)

noncomputable def s_l07Lock (p0 : L01Cur) : Option (L01Cur × Lock) :=
 bnd (s_l07Tx p0) fun r1 =>
 bnd (s_l02Range r1.1) fun r2 =>
 bnd (s_l01Below r2.1 2) fun r3 =>
 some ((r3.1, (⟨r1.2, r2.2, (r3.2 == 0)⟩ : Lock)))
set_option maxHeartbeats 4000000 in
/-- spec.l07Lock -/
theorem k_s_l07Lock (p0 : L01Cur) (v : L01Cur × Lock) (h : s_l07Lock p0 = some v) : CallG Try.prog 54 [.bx [.fz (lC 1 eN_u8 p0.b), iC p0.i, iC p0.h]] [pV 0] [.bx [.fz (lC 1 eN_u8 v.1.b), iC v.1.i, iC v.1.h]] (.agg [.c (iC v.2.tx.c), .c (iC v.2.tx.e), .c (iC v.2.tx.n), .c (sC v.2.range.lo), .c (sC v.2.range.hi), .c (bC v.2.ex)]) [] :=
  callG tyOK Try.func54 rfl (by simp) fun w S γ hS => by
    unfold s_l07Lock at h
    refine a_seq ?_
    refine a_run [0, 2] tyOK (st1 := mk 11 [(0, pV 0), (2, pV 2)] [(0, [.bx [.fz (lC 1 eN_u8 p0.b), iC p0.i, iC p0.h]]), (2, [.bx [iC 0, iC 0, iC 0, sC ((⟨#[]⟩ : ByteArray)), sC ((⟨#[]⟩ : ByteArray)), bC false]])]) (by kernel_rfl) ?_
    refine a_seq ?_
    refine a_ops [0, 1, 2, 3, 4, 5, 6, 7, 8] (by kernel_rfl) ?_
    refine ao_someM [0] [1, 2, 3, 4, 5, 6, 7, 8] tyOK (l1 := [(0, pV 0), (2, pV 2), (3, pV 0)]) (by kernel_rfl) ?_
    obtain ⟨r1, er1, h⟩ := bnd_e h
    refine ao_g2 (g := 97) (d := 4) (A := [pV 0]) (A' := [pV 0]) (cs := [.bx [.fz (lC 1 eN_u8 p0.b), iC p0.i, iC p0.h]]) (outs := [.bx [.fz (lC 1 eN_u8 r1.1.b), iC r1.1.i, iC r1.1.h]]) (ps := [[(0, 0)]]) (st1 := mk 11 [(0, pV 0), (2, pV 2), (4, .agg [.c (iC r1.2.c), .c (iC r1.2.e), .c (iC r1.2.n)])] [(0, [.bx [.fz (lC 1 eN_u8 r1.1.b), iC r1.1.i, iC r1.1.h]]), (2, [.bx [iC 0, iC 0, iC 0, sC ((⟨#[]⟩ : ByteArray)), sC ((⟨#[]⟩ : ByteArray)), bC false]])]) [0, 2, 4] (k_s_l07Tx p0 r1 er1) Try.call97 (by kernel_rfl) (.cons (.one (.pl 0 rfl rfl)) .nil) (handedN_of (szs := [0]) (by kernel_rfl)) (by kernel_rfl) (.bx .nil) (wholeFIO _ _ _ _) (by kernel_rfl) (by kernel_rfl) ?_
    refine ao_someM [2] [3, 4, 5, 6, 7, 8] tyOK (l1 := [(0, pV 0), (2, pV 2), (4, .agg [.c (iC r1.2.c), .c (iC r1.2.e), .c (iC r1.2.n)]), (5, pV 0)]) (by kernel_rfl) ?_
    obtain ⟨r2, er2, h⟩ := bnd_e h
    refine ao_g2 (g := 98) (d := 6) (A := [pV 0]) (A' := [pV 0]) (cs := [.bx [.fz (lC 1 eN_u8 r1.1.b), iC r1.1.i, iC r1.1.h]]) (outs := [.bx [.fz (lC 1 eN_u8 r2.1.b), iC r2.1.i, iC r2.1.h]]) (ps := [[(0, 0)]]) (st1 := mk 11 [(0, pV 0), (2, pV 2), (4, .agg [.c (iC r1.2.c), .c (iC r1.2.e), .c (iC r1.2.n)]), (6, .agg [.c (sC r2.2.lo), .c (sC r2.2.hi)])] [(0, [.bx [.fz (lC 1 eN_u8 r2.1.b), iC r2.1.i, iC r2.1.h]]), (2, [.bx [iC 0, iC 0, iC 0, sC ((⟨#[]⟩ : ByteArray)), sC ((⟨#[]⟩ : ByteArray)), bC false]])]) [0, 2, 4, 6] (k_s_l02Range r1.1 r2 er2) Try.call98 (by kernel_rfl) (.cons (.one (.pl 0 rfl rfl)) .nil) (handedN_of (szs := [0]) (by kernel_rfl)) (by kernel_rfl) (.bx .nil) (wholeFIO _ _ _ _) (by kernel_rfl) (by kernel_rfl) ?_
    refine ao_someM [4] [5, 6, 7, 8] tyOK (l1 := [(0, pV 0), (2, pV 2), (4, .agg [.c (iC r1.2.c), .c (iC r1.2.e), .c (iC r1.2.n)]), (6, .agg [.c (sC r2.2.lo), .c (sC r2.2.hi)]), (7, pV 0)]) (by kernel_rfl) ?_
    obtain ⟨r3, er3, h⟩ := bnd_e h
    refine ao_g2 (g := 55) (d := 8) (A := [pV 0, iV 2]) (A' := [pV 0, iV 2]) (cs := [.bx [.fz (lC 1 eN_u8 r2.1.b), iC r2.1.i, iC r2.1.h]]) (outs := [.bx [.fz (lC 1 eN_u8 r3.1.b), iC r3.1.i, iC r3.1.h]]) (ps := [[(0, 0)]]) (st1 := mk 11 [(0, pV 0), (2, pV 2), (4, .agg [.c (iC r1.2.c), .c (iC r1.2.e), .c (iC r1.2.n)]), (6, .agg [.c (sC r2.2.lo), .c (sC r2.2.hi)]), (8, iV r3.2)] [(0, [.bx [.fz (lC 1 eN_u8 r3.1.b), iC r3.1.i, iC r3.1.h]]), (2, [.bx [iC 0, iC 0, iC 0, sC ((⟨#[]⟩ : ByteArray)), sC ((⟨#[]⟩ : ByteArray)), bC false]])]) [0, 2, 4, 6, 8] (k_s_l01Below r2.1 2 r3 er3) Try.call55 (by kernel_rfl) (.cons (.one (.pl 0 rfl rfl)) (.cons (.one (.same rfl)) .nil)) (handedN_of (szs := [0]) (by kernel_rfl)) (by kernel_rfl) (.bx .nil) (wholeFIO _ _ _ _) (by kernel_rfl) (by kernel_rfl) ?_
    refine ao_some [6, 7, 8] [] [0, 2] tyOK (st1 := mk 11 [(0, pV 0), (2, pV 2)] [(0, [.bx [.fz (lC 1 eN_u8 r3.1.b), iC r3.1.i, iC r3.1.h]]), (2, [.bx [iC r1.2.c, iC r1.2.e, iC r1.2.n, sC r2.2.lo, sC r2.2.hi, bC ((r3.2 == 0))]])]) (by kernel_rfl) ?_
    refine ao_nil ?_
    refine a_ret ?_
    obtain rfl := Option.some.inj h
    exact end_g (ob := []) (outs' := [.bx [.fz (lC 1 eN_u8 r3.1.b), iC r3.1.i, iC r3.1.h]]) (res' := .agg [.c (iC r1.2.c), .c (iC r1.2.e), .c (iC r1.2.n), .c (sC r2.2.lo), .c (sC r2.2.hi), .c (bC ((r3.2 == 0)))]) (row' := []) (by kernel_rfl) trivial (by first | rfl | simp) (by first | rfl | simp) (by first | rfl | simp)


end Go.Proofs.Ytagoajkiccgmjaa
namespace Go.Proofs.Ytagoajkiccgmjaa
open Go.Mv Go.RowKit
noncomputable def s_l07Copy (p0 : Locks) : Option (Locks) :=
 chk (((([] : List Lock)).length + (p0.held).length) * 64 ≤ 140737488355328) <|
 chk (((([] : List Lock)).length + (p0.wait).length) * 64 ≤ 140737488355328) <|
 some p0
set_option maxHeartbeats 4000000 in
/-- spec.l07Copy -/
theorem k_s_l07Copy (p0 : Locks) (v : Locks) (h : s_l07Copy p0 = some v) : CallOK Try.prog 64 [.agg [.c (lC 6 eLock p0.held), .c (lC 6 eLock p0.wait)]] (.agg [.so [] 0 0 ((v.held).length), .so [] 0 1 ((v.wait).length)]) [lC 6 eLock v.held, lC 6 eLock v.wait] :=
  callOK tyOK Try.func64 rfl fun w S hS => by
    unfold s_l07Copy at h
    refine a_seq ?_
    refine a_run [1, 2] tyOK (st1 := mk 12 [(1, pV 1), (2, pV 2)] [(1, [.bx [.fz (lC 6 eLock p0.held), .fz (lC 6 eLock p0.wait)]]), (2, [.bx [.sl 6 ([]), .sl 6 ([])]])]) (by kernel_rfl) ?_
    refine a_seq ?_
    obtain ⟨c1, h⟩ := chk_e h
    obtain ⟨c2, h⟩ := chk_e h
    refine a_mid (mk 12 [(2, pV 2)] [(2, [.bx [lC 6 eLock p0.held, lC 6 eLock p0.wait]])]) ?_ ?_
    · refine a_drawn (n := 10) [3, 7, 9] (by kernel_rfl) (by kernel_rfl) ?_
      refine aa_with (fun K to of => ?_)
      have k1 : K 2 #[true, true, true, true, true, true, true, true, false, false] (mk 12 [(2, pV 2), (6, .one (.so [] 6 0 ((p0.held).length))), (10, .one (.so [] 10 0 ((p0.wait).length)))] [(2, [.bx [.sl 6 ([]), .sl 6 ([])]]), (6, [lC 6 eLock p0.held]), (10, [lC 6 eLock p0.wait])]) := of (by
        refine aa_all [8] (by kernel_rfl) rfl ?_
        refine aa_cons ?_ aa_nil
        refine aone_anyM (listed' := #[true, true, true, true, true, true, true, true, true, false]) (l1 := [(2, pV 2), (11, .agg [.so [] 6 0 ((p0.held).length), .so [] 10 0 ((p0.wait).length)])]) tyOK (by kernel_rfl) (by kernel_rfl) ?_
        refine aa_all [9] (by kernel_rfl) rfl ?_
        refine aa_cons ?_ aa_nil
        refine aone_o (ob := [(((p0.held).map eLock).length, (p0.held).length), (((p0.wait).map eLock).length, (p0.wait).length)]) (listed' := #[true, true, true, true, true, true, true, true, true, true]) (st1 := mk 12 [(2, pV 2)] [(2, [.bx [lC 6 eLock p0.held, lC 6 eLock p0.wait]])]) [2] tyOK (by kernel_rfl) ⟨by simp, by simp, trivial⟩ (by kernel_rfl) (by kernel_rfl) ?_
        refine aa_done (by kernel_rfl) ?_
        show _ = _; kernel_rfl)
      have k2 : K 3 #[true, true, true, true, true, true, true, false, false, false] (mk 12 [(2, pV 2), (6, .one (.so [] 6 0 ((p0.held).length))), (7, .one (.so [] 7 0 0)), (9, lV 6 eLock p0.wait)] [(2, [.bx [.sl 6 ([]), .sl 6 ([])]]), (6, [lC 6 eLock p0.held]), (7, [.sl 6 ([])])]) := of (by
        refine aa_all [7] (by kernel_rfl) rfl ?_
        refine aa_cons ?_ aa_nil
        refine aone_append (listed' := #[true, true, true, true, true, true, true, true, false, false]) (d := 10) (n := 0) (n' := ((p0.wait).length)) (bytes := 64) (size := 6) (src := (some ([], 7, 0))) (rows := []) (tx := lV 6 eLock p0.wait) (new := ((p0.wait).map eLock).map (List.map frzC)) (rows' := (p0.wait).map eLock) (st1 := mk 12 [(2, pV 2), (6, .one (.so [] 6 0 ((p0.held).length))), (10, .one (.so [] 10 0 ((p0.wait).length)))] [(2, [.bx [.sl 6 ([]), .sl 6 ([])]]), (6, [lC 6 eLock p0.held]), (10, [lC 6 eLock p0.wait])]) [2, 6, 10] tyOK (by kernel_rfl) (appRows_fz (by simp [bC, eLock, eRange, eTx, frzC, iC, sC])) (by simp) (by simpa using c2) (by kernel_rfl) (by simp [bC, eLock, eRange, eTx, frzC, iC, sC]) (by simp) (by kernel_rfl) (by kernel_rfl) (by kernel_rfl) ?_
        exact to k1)
      have k3 : K 4 #[true, true, true, false, true, true, true, false, false, false] (mk 12 [(2, pV 2), (3, .one (.so [] 3 0 0)), (5, lV 6 eLock p0.held), (7, .one (.so [] 7 0 0)), (9, lV 6 eLock p0.wait)] [(2, [.bx [.sl 6 ([]), .sl 6 ([])]]), (3, [.sl 6 ([])]), (7, [.sl 6 ([])])]) := of (by
        refine aa_all [3] (by kernel_rfl) rfl ?_
        refine aa_cons ?_ aa_nil
        refine aone_append (listed' := #[true, true, true, true, true, true, true, false, false, false]) (d := 6) (n := 0) (n' := ((p0.held).length)) (bytes := 64) (size := 6) (src := (some ([], 3, 0))) (rows := []) (tx := lV 6 eLock p0.held) (new := ((p0.held).map eLock).map (List.map frzC)) (rows' := (p0.held).map eLock) (st1 := mk 12 [(2, pV 2), (6, .one (.so [] 6 0 ((p0.held).length))), (7, .one (.so [] 7 0 0)), (9, lV 6 eLock p0.wait)] [(2, [.bx [.sl 6 ([]), .sl 6 ([])]]), (6, [lC 6 eLock p0.held]), (7, [.sl 6 ([])])]) [2, 6, 7, 9] tyOK (by kernel_rfl) (appRows_fz (by simp [bC, eLock, eRange, eTx, frzC, iC, sC])) (by simp) (by simpa using c1) (by kernel_rfl) (by simp [bC, eLock, eRange, eTx, frzC, iC, sC]) (by simp) (by kernel_rfl) (by kernel_rfl) (by kernel_rfl) ?_
        exact to k2)
      have k4 : K 5 #[true, true, true, false, true, true, false, false, false, false] (mk 12 [(2, pV 2), (3, .one (.so [] 3 0 0)), (5, lV 6 eLock p0.held), (7, .one (.so [] 7 0 0)), (8, .one (.pl [(1, 0)] 0 1))] [(1, [.bx [.fz (lC 6 eLock p0.held), .fz (lC 6 eLock p0.wait)]]), (2, [.bx [.sl 6 ([]), .sl 6 ([])]]), (3, [.sl 6 ([])]), (7, [.sl 6 ([])])]) := of (by
        refine aa_all [3, 6] (by kernel_rfl) rfl ?_
        refine aa_cons ?_ ?_
        · refine aone_append (listed' := #[true, true, true, true, true, true, false, false, false, false]) (d := 6) (n := 0) (n' := ((p0.held).length)) (bytes := 64) (size := 6) (src := (some ([], 3, 0))) (rows := []) (tx := lV 6 eLock p0.held) (new := ((p0.held).map eLock).map (List.map frzC)) (rows' := (p0.held).map eLock) (st1 := mk 12 [(2, pV 2), (6, .one (.so [] 6 0 ((p0.held).length))), (7, .one (.so [] 7 0 0)), (8, .one (.pl [(1, 0)] 0 1))] [(1, [.bx [.fz (lC 6 eLock p0.held), .fz (lC 6 eLock p0.wait)]]), (2, [.bx [.sl 6 ([]), .sl 6 ([])]]), (6, [lC 6 eLock p0.held]), (7, [.sl 6 ([])])]) [2, 6, 7, 8] tyOK (by kernel_rfl) (appRows_fz (by simp [bC, eLock, eRange, eTx, frzC, iC, sC])) (by simp) (by simpa using c1) (by kernel_rfl) (by simp [bC, eLock, eRange, eTx, frzC, iC, sC]) (by simp) (by kernel_rfl) (by kernel_rfl) (by kernel_rfl) ?_
          refine aa_take (fuel := 3) (listed' := #[true, true, true, true, true, true, true, false, false, false]) (st' := mk 12 [(2, pV 2), (6, .one (.so [] 6 0 ((p0.held).length))), (7, .one (.so [] 7 0 0)), (9, lV 6 eLock p0.wait)] [(2, [.bx [.sl 6 ([]), .sl 6 ([])]]), (6, [lC 6 eLock p0.held]), (7, [.sl 6 ([])])]) [6] [2, 6, 7, 9] tyOK (by kernel_rfl) (by kernel_rfl) (by kernel_rfl) ?_
          refine aa_all [7] (by kernel_rfl) rfl ?_
          refine aa_cons ?_ aa_nil
          refine aone_append (listed' := #[true, true, true, true, true, true, true, true, false, false]) (d := 10) (n := 0) (n' := ((p0.wait).length)) (bytes := 64) (size := 6) (src := (some ([], 7, 0))) (rows := []) (tx := lV 6 eLock p0.wait) (new := ((p0.wait).map eLock).map (List.map frzC)) (rows' := (p0.wait).map eLock) (st1 := mk 12 [(2, pV 2), (6, .one (.so [] 6 0 ((p0.held).length))), (10, .one (.so [] 10 0 ((p0.wait).length)))] [(2, [.bx [.sl 6 ([]), .sl 6 ([])]]), (6, [lC 6 eLock p0.held]), (10, [lC 6 eLock p0.wait])]) [2, 6, 10] tyOK (by kernel_rfl) (appRows_fz (by simp [bC, eLock, eRange, eTx, frzC, iC, sC])) (by simp) (by simpa using c2) (by kernel_rfl) (by simp [bC, eLock, eRange, eTx, frzC, iC, sC]) (by simp) (by kernel_rfl) (by kernel_rfl) (by kernel_rfl) ?_
          exact to k1
        refine aa_cons ?_ aa_nil
        refine aone_any (listed' := #[true, true, true, false, true, true, true, false, false, false]) (st1 := mk 12 [(2, pV 2), (3, .one (.so [] 3 0 0)), (5, lV 6 eLock p0.held), (7, .one (.so [] 7 0 0)), (9, lV 6 eLock p0.wait)] [(2, [.bx [.sl 6 ([]), .sl 6 ([])]]), (3, [.sl 6 ([])]), (7, [.sl 6 ([])])]) [2, 3, 5, 7, 9] tyOK (by kernel_rfl) (by kernel_rfl) ?_
        exact to k3)
      have k5 : K 5 #[true, true, true, false, false, true, true, false, false, false] (mk 12 [(2, pV 2), (3, .one (.so [] 3 0 0)), (5, lV 6 eLock p0.held), (9, lV 6 eLock p0.wait)] [(2, [.bx [.sl 6 ([]), .sl 6 ([])]]), (3, [.sl 6 ([])])]) := of (by
        refine aa_all [3, 4] (by kernel_rfl) rfl ?_
        refine aa_cons ?_ ?_
        · refine aone_append (listed' := #[true, true, true, true, false, true, true, false, false, false]) (d := 6) (n := 0) (n' := ((p0.held).length)) (bytes := 64) (size := 6) (src := (some ([], 3, 0))) (rows := []) (tx := lV 6 eLock p0.held) (new := ((p0.held).map eLock).map (List.map frzC)) (rows' := (p0.held).map eLock) (st1 := mk 12 [(2, pV 2), (6, .one (.so [] 6 0 ((p0.held).length))), (9, lV 6 eLock p0.wait)] [(2, [.bx [.sl 6 ([]), .sl 6 ([])]]), (6, [lC 6 eLock p0.held])]) [2, 6, 9] tyOK (by kernel_rfl) (appRows_fz (by simp [bC, eLock, eRange, eTx, frzC, iC, sC])) (by simp) (by simpa using c1) (by kernel_rfl) (by simp [bC, eLock, eRange, eTx, frzC, iC, sC]) (by simp) (by kernel_rfl) (by kernel_rfl) (by kernel_rfl) ?_
          refine aa_all [4] (by kernel_rfl) rfl ?_
          refine aa_cons ?_ aa_nil
          refine aone_any (listed' := #[true, true, true, true, true, true, true, false, false, false]) (st1 := mk 12 [(2, pV 2), (6, .one (.so [] 6 0 ((p0.held).length))), (7, .one (.so [] 7 0 0)), (9, lV 6 eLock p0.wait)] [(2, [.bx [.sl 6 ([]), .sl 6 ([])]]), (6, [lC 6 eLock p0.held]), (7, [.sl 6 ([])])]) [2, 6, 7, 9] tyOK (by kernel_rfl) (by kernel_rfl) ?_
          exact to k2
        refine aa_cons ?_ aa_nil
        refine aone_any (listed' := #[true, true, true, false, true, true, true, false, false, false]) (st1 := mk 12 [(2, pV 2), (3, .one (.so [] 3 0 0)), (5, lV 6 eLock p0.held), (7, .one (.so [] 7 0 0)), (9, lV 6 eLock p0.wait)] [(2, [.bx [.sl 6 ([]), .sl 6 ([])]]), (3, [.sl 6 ([])]), (7, [.sl 6 ([])])]) [2, 3, 5, 7, 9] tyOK (by kernel_rfl) (by kernel_rfl) ?_
        exact to k3)
      have k6 : K 5 #[false, true, true, false, true, true, true, false, false, false] (mk 12 [(2, pV 2), (5, lV 6 eLock p0.held), (7, .one (.so [] 7 0 0)), (9, lV 6 eLock p0.wait)] [(2, [.bx [.sl 6 ([]), .sl 6 ([])]]), (7, [.sl 6 ([])])]) := of (by
        refine aa_all [0] (by kernel_rfl) rfl ?_
        refine aa_cons ?_ aa_nil
        refine aone_any (listed' := #[true, true, true, false, true, true, true, false, false, false]) (st1 := mk 12 [(2, pV 2), (3, .one (.so [] 3 0 0)), (5, lV 6 eLock p0.held), (7, .one (.so [] 7 0 0)), (9, lV 6 eLock p0.wait)] [(2, [.bx [.sl 6 ([]), .sl 6 ([])]]), (3, [.sl 6 ([])]), (7, [.sl 6 ([])])]) [2, 3, 5, 7, 9] tyOK (by kernel_rfl) (by kernel_rfl) ?_
        exact to k3)
      refine aa_takeM (fuel := 8) (listed' := #[false, true, true, false, false, false, false, false, false, false]) (l1 := [(1, pV 1), (2, pV 2), (5, lV 6 eLock p0.held)]) [1, 2] tyOK (by kernel_rfl) (by kernel_rfl) (by kernel_rfl) ?_
      refine aa_takePM (fuel := 7) (listed' := #[false, true, true, false, false, true, false, false, false, false]) (l1 := [(2, pV 2), (5, lV 6 eLock p0.held), (8, .one (.pl [(1, 0)] 0 1))]) [5] tyOK (by kernel_rfl) (by kernel_rfl) (by kernel_rfl) ?_
      refine aa_all [0, 4, 6] (by kernel_rfl) rfl ?_
      refine aa_cons ?_ ?_
      · refine aone_any (listed' := #[true, true, true, false, false, true, false, false, false, false]) (st1 := mk 12 [(2, pV 2), (3, .one (.so [] 3 0 0)), (5, lV 6 eLock p0.held), (8, .one (.pl [(1, 0)] 0 1))] [(1, [.bx [.fz (lC 6 eLock p0.held), .fz (lC 6 eLock p0.wait)]]), (2, [.bx [.sl 6 ([]), .sl 6 ([])]]), (3, [.sl 6 ([])])]) [2, 3, 5, 8] tyOK (by kernel_rfl) (by kernel_rfl) ?_
        refine aa_all [3, 4, 6] (by kernel_rfl) rfl ?_
        refine aa_cons ?_ ?_
        · refine aone_append (listed' := #[true, true, true, true, false, true, false, false, false, false]) (d := 6) (n := 0) (n' := ((p0.held).length)) (bytes := 64) (size := 6) (src := (some ([], 3, 0))) (rows := []) (tx := lV 6 eLock p0.held) (new := ((p0.held).map eLock).map (List.map frzC)) (rows' := (p0.held).map eLock) (st1 := mk 12 [(2, pV 2), (6, .one (.so [] 6 0 ((p0.held).length))), (8, .one (.pl [(1, 0)] 0 1))] [(1, [.bx [.fz (lC 6 eLock p0.held), .fz (lC 6 eLock p0.wait)]]), (2, [.bx [.sl 6 ([]), .sl 6 ([])]]), (6, [lC 6 eLock p0.held])]) [2, 6, 8] tyOK (by kernel_rfl) (appRows_fz (by simp [bC, eLock, eRange, eTx, frzC, iC, sC])) (by simp) (by simpa using c1) (by kernel_rfl) (by simp [bC, eLock, eRange, eTx, frzC, iC, sC]) (by simp) (by kernel_rfl) (by kernel_rfl) (by kernel_rfl) ?_
          refine aa_take (fuel := 4) (listed' := #[true, true, true, true, false, true, true, false, false, false]) (st' := mk 12 [(2, pV 2), (6, .one (.so [] 6 0 ((p0.held).length))), (9, lV 6 eLock p0.wait)] [(2, [.bx [.sl 6 ([]), .sl 6 ([])]]), (6, [lC 6 eLock p0.held])]) [6] [2, 6, 9] tyOK (by kernel_rfl) (by kernel_rfl) (by kernel_rfl) ?_
          refine aa_all [4] (by kernel_rfl) rfl ?_
          refine aa_cons ?_ aa_nil
          refine aone_any (listed' := #[true, true, true, true, true, true, true, false, false, false]) (st1 := mk 12 [(2, pV 2), (6, .one (.so [] 6 0 ((p0.held).length))), (7, .one (.so [] 7 0 0)), (9, lV 6 eLock p0.wait)] [(2, [.bx [.sl 6 ([]), .sl 6 ([])]]), (6, [lC 6 eLock p0.held]), (7, [.sl 6 ([])])]) [2, 6, 7, 9] tyOK (by kernel_rfl) (by kernel_rfl) ?_
          exact to k2
        refine aa_cons ?_ ?_
        · refine aone_any (listed' := #[true, true, true, false, true, true, false, false, false, false]) (st1 := mk 12 [(2, pV 2), (3, .one (.so [] 3 0 0)), (5, lV 6 eLock p0.held), (7, .one (.so [] 7 0 0)), (8, .one (.pl [(1, 0)] 0 1))] [(1, [.bx [.fz (lC 6 eLock p0.held), .fz (lC 6 eLock p0.wait)]]), (2, [.bx [.sl 6 ([]), .sl 6 ([])]]), (3, [.sl 6 ([])]), (7, [.sl 6 ([])])]) [2, 3, 5, 7, 8] tyOK (by kernel_rfl) (by kernel_rfl) ?_
          exact to k4
        refine aa_cons ?_ aa_nil
        refine aone_any (listed' := #[true, true, true, false, false, true, true, false, false, false]) (st1 := mk 12 [(2, pV 2), (3, .one (.so [] 3 0 0)), (5, lV 6 eLock p0.held), (9, lV 6 eLock p0.wait)] [(2, [.bx [.sl 6 ([]), .sl 6 ([])]]), (3, [.sl 6 ([])])]) [2, 3, 5, 9] tyOK (by kernel_rfl) (by kernel_rfl) ?_
        exact to k5
      refine aa_cons ?_ ?_
      · refine aone_any (listed' := #[false, true, true, false, true, true, false, false, false, false]) (st1 := mk 12 [(2, pV 2), (5, lV 6 eLock p0.held), (7, .one (.so [] 7 0 0)), (8, .one (.pl [(1, 0)] 0 1))] [(1, [.bx [.fz (lC 6 eLock p0.held), .fz (lC 6 eLock p0.wait)]]), (2, [.bx [.sl 6 ([]), .sl 6 ([])]]), (7, [.sl 6 ([])])]) [2, 5, 7, 8] tyOK (by kernel_rfl) (by kernel_rfl) ?_
        refine aa_all [0, 6] (by kernel_rfl) rfl ?_
        refine aa_cons ?_ ?_
        · refine aone_any (listed' := #[true, true, true, false, true, true, false, false, false, false]) (st1 := mk 12 [(2, pV 2), (3, .one (.so [] 3 0 0)), (5, lV 6 eLock p0.held), (7, .one (.so [] 7 0 0)), (8, .one (.pl [(1, 0)] 0 1))] [(1, [.bx [.fz (lC 6 eLock p0.held), .fz (lC 6 eLock p0.wait)]]), (2, [.bx [.sl 6 ([]), .sl 6 ([])]]), (3, [.sl 6 ([])]), (7, [.sl 6 ([])])]) [2, 3, 5, 7, 8] tyOK (by kernel_rfl) (by kernel_rfl) ?_
          exact to k4
        refine aa_cons ?_ aa_nil
        refine aone_any (listed' := #[false, true, true, false, true, true, true, false, false, false]) (st1 := mk 12 [(2, pV 2), (5, lV 6 eLock p0.held), (7, .one (.so [] 7 0 0)), (9, lV 6 eLock p0.wait)] [(2, [.bx [.sl 6 ([]), .sl 6 ([])]]), (7, [.sl 6 ([])])]) [2, 5, 7, 9] tyOK (by kernel_rfl) (by kernel_rfl) ?_
        exact to k6
      refine aa_cons ?_ aa_nil
      refine aone_any (listed' := #[false, true, true, false, false, true, true, false, false, false]) (st1 := mk 12 [(2, pV 2), (5, lV 6 eLock p0.held), (9, lV 6 eLock p0.wait)] [(2, [.bx [.sl 6 ([]), .sl 6 ([])]])]) [2, 5, 9] tyOK (by kernel_rfl) (by kernel_rfl) ?_
      refine aa_all [0, 4] (by kernel_rfl) rfl ?_
      refine aa_cons ?_ ?_
      · refine aone_any (listed' := #[true, true, true, false, false, true, true, false, false, false]) (st1 := mk 12 [(2, pV 2), (3, .one (.so [] 3 0 0)), (5, lV 6 eLock p0.held), (9, lV 6 eLock p0.wait)] [(2, [.bx [.sl 6 ([]), .sl 6 ([])]]), (3, [.sl 6 ([])])]) [2, 3, 5, 9] tyOK (by kernel_rfl) (by kernel_rfl) ?_
        exact to k5
      refine aa_cons ?_ aa_nil
      refine aone_any (listed' := #[false, true, true, false, true, true, true, false, false, false]) (st1 := mk 12 [(2, pV 2), (5, lV 6 eLock p0.held), (7, .one (.so [] 7 0 0)), (9, lV 6 eLock p0.wait)] [(2, [.bx [.sl 6 ([]), .sl 6 ([])]]), (7, [.sl 6 ([])])]) [2, 5, 7, 9] tyOK (by kernel_rfl) (by kernel_rfl) ?_
      exact to k6
    refine a_ret ?_
    obtain rfl := Option.some.inj h
    exact end_own (ob := [(((p0.held).map eLock).length, ((p0.held).map eLock).length), (((p0.wait).map eLock).length, ((p0.wait).map eLock).length)]) (res' := .agg [.so [] 0 0 (((p0.held).map eLock).length), .so [] 0 1 (((p0.wait).map eLock).length)]) (row' := [lC 6 eLock p0.held, lC 6 eLock p0.wait]) (by kernel_rfl) ⟨by simp, by simp, trivial⟩ (by first | rfl | simp) (by first | rfl | simp)


end Go.Proofs.Ytagoajkiccgmjaa
namespace Go.Proofs.Ytagoajkiccgmjaa
open Go.Mv Go.RowKit
noncomputable def s_LockAsk (p0 : Locks) (p1 : Lock) : Option (Locks × Int) :=
 bnd (bnd (s_LocksOk p0) fun r1 =>
 bif (!r1) then
 (some true)
 else
 (bif (!(s_l07LockOk p1)) then
 (some true)
 else
 (bnd (s_l07Waits p0 p1.tx) fun r2 =>
 some r2))) fun j1 =>
 bif j1 then
 (some (((⟨[], []⟩ : Locks), 1)))
 else
 (bif (decide ((IntKind.wrap .i64 ((((((p0.held).map eLock).length : Nat) : Int)) + (((((p0.wait).map eLock).length : Nat) : Int)))) ≥ 60)) then
 (some (((⟨[], []⟩ : Locks), 2)))
 else
 (bnd (s_l07Copy p0) fun r3 =>
 bnd (bnd (s_l07Any p0.held p1) fun r4 =>
 bif r4 then
 (some true)
 else
 (bnd (s_l07Any p0.wait p1) fun r5 =>
 some r5)) fun j2 =>
 bif j2 then
 (chk (((r3.wait).length + (([p1] : List Lock)).length) * 64 ≤ 140737488355328) <|
 some (((⟨r3.held, r3.wait ++ ([p1] : List Lock)⟩ : Locks), 3)))
 else
 (chk (((r3.held).length + (([p1] : List Lock)).length) * 64 ≤ 140737488355328) <|
 some (((⟨r3.held ++ ([p1] : List Lock), r3.wait⟩ : Locks), 0)))))
set_option maxHeartbeats 4000000 in
/-- spec.LockAsk -/
theorem k_s_LockAsk (p0 : Locks) (p1 : Lock) (v : Locks × Int) (h : s_LockAsk p0 p1 = some v) : CallOK Try.prog 19 [.agg [.c (lC 6 eLock p0.held), .c (lC 6 eLock p0.wait)], .agg [.c (iC p1.tx.c), .c (iC p1.tx.e), .c (iC p1.tx.n), .c (sC p1.range.lo), .c (sC p1.range.hi), .c (bC p1.ex)]] (.tup [.agg [.so [] 0 0 ((v.1.held).length), .so [] 0 1 ((v.1.wait).length)], .one (.c (iC v.2))]) [lC 6 eLock v.1.held, lC 6 eLock v.1.wait] :=
  callOK tyOK Try.func19 rfl fun w S hS => by
    unfold s_LockAsk at h
    refine a_seq ?_
    refine a_run [2, 3, 4] tyOK (st1 := mk 57 [(2, pV 2), (3, pV 3), (4, pV 4)] [(2, [.bx [.fz (lC 6 eLock p0.held), .fz (lC 6 eLock p0.wait)]]), (3, [.bx [iC p1.tx.c, iC p1.tx.e, iC p1.tx.n, sC p1.range.lo, sC p1.range.hi, bC p1.ex]]), (4, [.bx [.sl 6 ([]), .sl 6 ([])]])]) (by kernel_rfl) ?_
    refine a_seq ?_
    refine a_seq ?_
    obtain ⟨y1, h, ky1⟩ := bndJ_e h
    refine a_joinT (ι := Bool) (fun j => mk 57 [(2, pV 2), (3, pV 3), (4, pV 4), (20, bV j)] [(2, [.bx [.fz (lC 6 eLock p0.held), .fz (lC 6 eLock p0.wait)]]), (3, [.bx [iC p1.tx.c, iC p1.tx.e, iC p1.tx.n, sC p1.range.lo, sC p1.range.hi, bC p1.ex]]), (4, [.bx [.sl 6 ([]), .sl 6 ([])]])]) (fun j => y1 = j) ?_ ?_
    · refine a_ops [0, 1, 2, 3, 4, 5, 6, 7, 8, 9, 10, 11, 12, 13] (by kernel_rfl) ?_
      refine ao_some [0] [1, 2, 3, 4, 5, 6, 7, 8, 9, 10, 11, 12, 13] [2, 3, 4, 7] tyOK (st1 := mk 57 [(2, pV 2), (3, pV 3), (4, pV 4), (7, .agg [.c (lC 6 eLock p0.held), .c (lC 6 eLock p0.wait)])] [(2, [.bx [.fz (lC 6 eLock p0.held), .fz (lC 6 eLock p0.wait)]]), (3, [.bx [iC p1.tx.c, iC p1.tx.e, iC p1.tx.n, sC p1.range.lo, sC p1.range.hi, bC p1.ex]]), (4, [.bx [.sl 6 ([]), .sl 6 ([])]])]) (by kernel_rfl) ?_
      obtain ⟨r1, er1, h⟩ := bnd_e h
      refine ao_enterM (f := 61) (d := 8) (A := [.agg [.c (lC 6 eLock p0.held), .c (lC 6 eLock p0.wait)]]) (l1 := [(2, pV 2), (3, pV 3), (4, pV 4), (8, bV r1)]) (k_s_LocksOk p0 r1 er1) Try.call61 (by kernel_rfl) (by kernel_rfl) (by kernel_rfl) ?_
      refine ao_someM [2, 3] [4, 5, 6, 7, 8, 9, 10, 11, 12, 13] tyOK (l1 := [(2, pV 2), (3, pV 3), (4, pV 4), (10, bV (!r1))]) (by kernel_rfl) ?_
      rcases Bool.eq_false_or_eq_true (!r1) with h1 | h1
      · replace h := cT h1 h
        refine ao_saysM (k := 10) (t := bV (!r1)) (t' := bV true) (l1 := [(2, pV 2), (3, pV 3), (4, pV 4), (10, bV true)]) (by kernel_rfl) (by rw [h1]) (by kernel_rfl) ?_
        refine ao_someM [4, 5, 6, 7, 8, 9, 10, 11, 12, 13] [] tyOK (l1 := [(2, pV 2), (3, pV 3), (4, pV 4), (20, bV true)]) (by kernel_rfl) ?_
        refine ao_nil ?_
        obtain rfl := Option.some.inj h
        show ∃ _, _ ∧ Imp _ _ _
        refine ⟨_, rfl, ?_⟩
        exact imp_keepTo [2, 3, 4, 20] (by kernel_rfl) (imp_done rfl)
      · replace h := cF h1 h
        refine ao_saysM (k := 10) (t := bV (!r1)) (t' := bV false) (l1 := [(2, pV 2), (3, pV 3), (4, pV 4), (10, bV false)]) (by kernel_rfl) (by rw [h1]) (by kernel_rfl) ?_
        refine ao_someM [4] [5, 6, 7, 8, 9, 10, 11, 12, 13] tyOK (l1 := [(2, pV 2), (3, pV 3), (4, pV 4), (10, bV false), (11, .agg [.c (iC p1.tx.c), .c (iC p1.tx.e), .c (iC p1.tx.n), .c (sC p1.range.lo), .c (sC p1.range.hi), .c (bC p1.ex)])]) (by kernel_rfl) ?_
        refine ao_enterM (f := 62) (d := 12) (A := [.agg [.c (iC p1.tx.c), .c (iC p1.tx.e), .c (iC p1.tx.n), .c (sC p1.range.lo), .c (sC p1.range.hi), .c (bC p1.ex)]]) (l1 := [(2, pV 2), (3, pV 3), (4, pV 4), (10, bV false), (12, bV (s_l07LockOk p1))]) (k_s_l07LockOk p1 _ rfl) Try.call62 (by kernel_rfl) (by kernel_rfl) (by kernel_rfl) ?_
        refine ao_someM [6, 7, 8] [9, 10, 11, 12, 13] tyOK (l1 := [(2, pV 2), (3, pV 3), (4, pV 4), (15, bV (!(s_l07LockOk p1)))]) (by kernel_rfl) ?_
        rcases Bool.eq_false_or_eq_true (!(s_l07LockOk p1)) with h2 | h2
        · replace h := cT h2 h
          refine ao_saysM (k := 15) (t := bV (!(s_l07LockOk p1))) (t' := bV true) (l1 := [(2, pV 2), (3, pV 3), (4, pV 4), (15, bV true)]) (by kernel_rfl) (by rw [h2]) (by kernel_rfl) ?_
          refine ao_someM [9, 10, 11, 12, 13] [] tyOK (l1 := [(2, pV 2), (3, pV 3), (4, pV 4), (20, bV true)]) (by kernel_rfl) ?_
          refine ao_nil ?_
          obtain rfl := Option.some.inj h
          show ∃ _, _ ∧ Imp _ _ _
          refine ⟨_, rfl, ?_⟩
          exact imp_keepTo [2, 3, 4, 20] (by kernel_rfl) (imp_done rfl)
        · replace h := cF h2 h
          refine ao_saysM (k := 15) (t := bV (!(s_l07LockOk p1))) (t' := bV false) (l1 := [(2, pV 2), (3, pV 3), (4, pV 4), (15, bV false)]) (by kernel_rfl) (by rw [h2]) (by kernel_rfl) ?_
          refine ao_someM [9, 10, 11] [12, 13] tyOK (l1 := [(2, pV 2), (3, pV 3), (4, pV 4), (15, bV false), (16, .agg [.c (lC 6 eLock p0.held), .c (lC 6 eLock p0.wait)]), (18, .agg [.c (iC p1.tx.c), .c (iC p1.tx.e), .c (iC p1.tx.n)])]) (by kernel_rfl) ?_
          obtain ⟨r2, er2, h⟩ := bnd_e h
          refine ao_enterM (f := 63) (d := 19) (A := [.agg [.c (lC 6 eLock p0.held), .c (lC 6 eLock p0.wait)], .agg [.c (iC p1.tx.c), .c (iC p1.tx.e), .c (iC p1.tx.n)]]) (l1 := [(2, pV 2), (3, pV 3), (4, pV 4), (15, bV false), (19, bV r2)]) (k_s_l07Waits p0 p1.tx r2 er2) Try.call63 (by kernel_rfl) (by kernel_rfl) (by kernel_rfl) ?_
          refine ao_someM [13] [] tyOK (l1 := [(2, pV 2), (3, pV 3), (4, pV 4), (20, bV r2)]) (by kernel_rfl) ?_
          refine ao_nil ?_
          obtain rfl := Option.some.inj h
          show ∃ _, _ ∧ Imp _ _ _
          refine ⟨_, rfl, ?_⟩
          exact imp_keepTo [2, 3, 4, 20] (by kernel_rfl) (imp_done rfl)
    intro j1 hj1
    replace h := ky1 _ hj1
    refine a_cond (b := j1) (by kernel_rfl) (fun h3 => ?_) (fun h3 => ?_)
    · replace h := cT h3 h
      refine a_seq ?_
      refine a_run [4, 5] tyOK (st1 := mk 57 [(4, pV 4), (5, iV 1)] [(4, [.bx [.sl 6 ([]), .sl 6 ([])]])]) (by kernel_rfl) ?_
      refine a_ret ?_
      obtain rfl := Option.some.inj h
      exact end_own (ob := [(0, 0), (0, 0)]) (res' := .tup [.agg [.so [] 0 0 0, .so [] 0 1 0], .one (.c (iC 1))]) (row' := [.sl 6 ([]), .sl 6 ([])]) (by kernel_rfl) ⟨by simp, by simp, trivial⟩ (by first | rfl | simp) (by first | rfl | simp)
    · replace h := cF h3 h
      refine a_skip ?_
      refine a_seq ?_
      refine a_seq ?_
      refine a_run [2, 3, 4, 29] tyOK (st1 := mk 57 [(2, pV 2), (3, pV 3), (4, pV 4), (29, bV (decide ((IntKind.wrap .i64 ((((((p0.held).map eLock).length : Nat) : Int)) + (((((p0.wait).map eLock).length : Nat) : Int)))) ≥ 60)))] [(2, [.bx [.fz (lC 6 eLock p0.held), .fz (lC 6 eLock p0.wait)]]), (3, [.bx [iC p1.tx.c, iC p1.tx.e, iC p1.tx.n, sC p1.range.lo, sC p1.range.hi, bC p1.ex]]), (4, [.bx [.sl 6 ([]), .sl 6 ([])]])]) (by kernel_rfl) ?_
      refine a_cond (b := decide ((IntKind.wrap .i64 ((((((p0.held).map eLock).length : Nat) : Int)) + (((((p0.wait).map eLock).length : Nat) : Int)))) ≥ 60)) (by kernel_rfl) (fun h4 => ?_) (fun h4 => ?_)
      · replace h := cT h4 h
        refine a_seq ?_
        refine a_run [4, 5] tyOK (st1 := mk 57 [(4, pV 4), (5, iV 2)] [(4, [.bx [.sl 6 ([]), .sl 6 ([])]])]) (by kernel_rfl) ?_
        refine a_ret ?_
        obtain rfl := Option.some.inj h
        exact end_own (ob := [(0, 0), (0, 0)]) (res' := .tup [.agg [.so [] 0 0 0, .so [] 0 1 0], .one (.c (iC 2))]) (row' := [.sl 6 ([]), .sl 6 ([])]) (by kernel_rfl) ⟨by simp, by simp, trivial⟩ (by first | rfl | simp) (by first | rfl | simp)
      · replace h := cF h4 h
        refine a_skip ?_
        refine a_seq ?_
        refine a_ops [0, 1, 2, 3] (by kernel_rfl) ?_
        refine ao_someM [0] [1, 2, 3] tyOK (l1 := [(2, pV 2), (3, pV 3), (4, pV 4), (31, .agg [.c (lC 6 eLock p0.held), .c (lC 6 eLock p0.wait)])]) (by kernel_rfl) ?_
        obtain ⟨r3, er3, h⟩ := bnd_e h
        refine ao_enter (f := 64) (d := 32) (A := [.agg [.c (lC 6 eLock p0.held), .c (lC 6 eLock p0.wait)]]) (st1 := mk 57 [(2, pV 2), (3, pV 3), (4, pV 4), (32, .agg [.so [] 32 0 ((r3.held).length), .so [] 32 1 ((r3.wait).length)])] [(2, [.bx [.fz (lC 6 eLock p0.held), .fz (lC 6 eLock p0.wait)]]), (3, [.bx [iC p1.tx.c, iC p1.tx.e, iC p1.tx.n, sC p1.range.lo, sC p1.range.hi, bC p1.ex]]), (4, [.bx [.sl 6 ([]), .sl 6 ([])]]), (32, [lC 6 eLock r3.held, lC 6 eLock r3.wait])]) [2, 3, 4, 32] (k_s_l07Copy p0 r3 er3) Try.call64 (by kernel_rfl) (by kernel_rfl) (by kernel_rfl) ?_
        refine ao_some [2] [3] [2, 3, 4, 6, 32] tyOK (st1 := mk 57 [(2, pV 2), (3, pV 3), (4, pV 4), (6, pV 6), (32, .agg [.so [] 32 0 ((r3.held).length), .so [] 32 1 ((r3.wait).length)])] [(2, [.bx [.fz (lC 6 eLock p0.held), .fz (lC 6 eLock p0.wait)]]), (3, [.bx [iC p1.tx.c, iC p1.tx.e, iC p1.tx.n, sC p1.range.lo, sC p1.range.hi, bC p1.ex]]), (4, [.bx [.sl 6 ([]), .sl 6 ([])]]), (6, [.bx [.sl 6 ([]), .sl 6 ([])]]), (32, [lC 6 eLock r3.held, lC 6 eLock r3.wait])]) (by kernel_rfl) ?_
        refine ao_o (ob := [(((r3.held).map eLock).length, (r3.held).length), (((r3.wait).map eLock).length, (r3.wait).length)]) (st1 := mk 57 [(2, pV 2), (3, pV 3), (4, pV 4), (6, pV 6)] [(2, [.bx [.fz (lC 6 eLock p0.held), .fz (lC 6 eLock p0.wait)]]), (3, [.bx [iC p1.tx.c, iC p1.tx.e, iC p1.tx.n, sC p1.range.lo, sC p1.range.hi, bC p1.ex]]), (4, [.bx [.sl 6 ([]), .sl 6 ([])]]), (6, [.bx [lC 6 eLock r3.held, lC 6 eLock r3.wait]])]) [2, 3, 4, 6] tyOK (by kernel_rfl) ⟨by simp, by simp, trivial⟩ ?_
        refine ao_nil ?_
        refine a_seq ?_
        refine a_seq ?_
        obtain ⟨y2, h, ky2⟩ := bndJ_e h
        refine a_joinT (ι := Bool) (fun j => mk 57 [(3, pV 3), (4, pV 4), (6, pV 6), (42, bV j)] [(3, [.bx [iC p1.tx.c, iC p1.tx.e, iC p1.tx.n, sC p1.range.lo, sC p1.range.hi, bC p1.ex]]), (4, [.bx [.sl 6 ([]), .sl 6 ([])]]), (6, [.bx [lC 6 eLock r3.held, lC 6 eLock r3.wait]])]) (fun j => y2 = j) ?_ ?_
        · refine a_ops [0, 1, 2, 3, 4, 5, 6, 7, 8, 9] (by kernel_rfl) ?_
          refine ao_some [0, 1, 2] [3, 4, 5, 6, 7, 8, 9] [2, 3, 4, 6, 34, 35] tyOK (st1 := mk 57 [(2, pV 2), (3, pV 3), (4, pV 4), (6, pV 6), (34, lV 6 eLock p0.held), (35, .agg [.c (iC p1.tx.c), .c (iC p1.tx.e), .c (iC p1.tx.n), .c (sC p1.range.lo), .c (sC p1.range.hi), .c (bC p1.ex)])] [(2, [.bx [.fz (lC 6 eLock p0.held), .fz (lC 6 eLock p0.wait)]]), (3, [.bx [iC p1.tx.c, iC p1.tx.e, iC p1.tx.n, sC p1.range.lo, sC p1.range.hi, bC p1.ex]]), (4, [.bx [.sl 6 ([]), .sl 6 ([])]]), (6, [.bx [lC 6 eLock r3.held, lC 6 eLock r3.wait]])]) (by kernel_rfl) ?_
          obtain ⟨r4, er4, h⟩ := bnd_e h
          refine ao_enterM (f := 65) (d := 36) (A := [lV 6 eLock p0.held, .agg [.c (iC p1.tx.c), .c (iC p1.tx.e), .c (iC p1.tx.n), .c (sC p1.range.lo), .c (sC p1.range.hi), .c (bC p1.ex)]]) (l1 := [(2, pV 2), (3, pV 3), (4, pV 4), (6, pV 6), (36, bV r4)]) (k_s_l07Any p0.held p1 r4 er4) Try.call65 (by kernel_rfl) (by kernel_rfl) (by kernel_rfl) ?_
          refine ao_someM [4] [5, 6, 7, 8, 9] tyOK (l1 := [(2, pV 2), (3, pV 3), (4, pV 4), (6, pV 6), (37, bV r4)]) (by kernel_rfl) ?_
          rcases Bool.eq_false_or_eq_true (r4) with h5 | h5
          · replace h := cT h5 h
            refine ao_saysM (k := 37) (t := bV r4) (t' := bV true) (l1 := [(2, pV 2), (3, pV 3), (4, pV 4), (6, pV 6), (37, bV true)]) (by kernel_rfl) (by rw [h5]) (by kernel_rfl) ?_
            refine ao_some [5, 6, 7, 8, 9] [] [3, 4, 6, 42] tyOK (st1 := mk 57 [(3, pV 3), (4, pV 4), (6, pV 6), (42, bV true)] [(3, [.bx [iC p1.tx.c, iC p1.tx.e, iC p1.tx.n, sC p1.range.lo, sC p1.range.hi, bC p1.ex]]), (4, [.bx [.sl 6 ([]), .sl 6 ([])]]), (6, [.bx [lC 6 eLock r3.held, lC 6 eLock r3.wait]])]) (by kernel_rfl) ?_
            refine ao_nil ?_
            obtain rfl := Option.some.inj h
            show ∃ _, _ ∧ Imp _ _ _
            refine ⟨_, rfl, ?_⟩
            exact imp_keepTo [3, 4, 6, 42] (by kernel_rfl) (imp_done rfl)
          · replace h := cF h5 h
            refine ao_saysM (k := 37) (t := bV r4) (t' := bV false) (l1 := [(2, pV 2), (3, pV 3), (4, pV 4), (6, pV 6), (37, bV false)]) (by kernel_rfl) (by rw [h5]) (by kernel_rfl) ?_
            refine ao_some [5, 6, 7] [8, 9] [3, 4, 6, 37, 39, 40] tyOK (st1 := mk 57 [(3, pV 3), (4, pV 4), (6, pV 6), (37, bV false), (39, lV 6 eLock p0.wait), (40, .agg [.c (iC p1.tx.c), .c (iC p1.tx.e), .c (iC p1.tx.n), .c (sC p1.range.lo), .c (sC p1.range.hi), .c (bC p1.ex)])] [(3, [.bx [iC p1.tx.c, iC p1.tx.e, iC p1.tx.n, sC p1.range.lo, sC p1.range.hi, bC p1.ex]]), (4, [.bx [.sl 6 ([]), .sl 6 ([])]]), (6, [.bx [lC 6 eLock r3.held, lC 6 eLock r3.wait]])]) (by kernel_rfl) ?_
            obtain ⟨r5, er5, h⟩ := bnd_e h
            refine ao_enterM (f := 65) (d := 41) (A := [lV 6 eLock p0.wait, .agg [.c (iC p1.tx.c), .c (iC p1.tx.e), .c (iC p1.tx.n), .c (sC p1.range.lo), .c (sC p1.range.hi), .c (bC p1.ex)]]) (l1 := [(3, pV 3), (4, pV 4), (6, pV 6), (37, bV false), (41, bV r5)]) (k_s_l07Any p0.wait p1 r5 er5) Try.call65 (by kernel_rfl) (by kernel_rfl) (by kernel_rfl) ?_
            refine ao_someM [9] [] tyOK (l1 := [(3, pV 3), (4, pV 4), (6, pV 6), (42, bV r5)]) (by kernel_rfl) ?_
            refine ao_nil ?_
            obtain rfl := Option.some.inj h
            show ∃ _, _ ∧ Imp _ _ _
            refine ⟨_, rfl, ?_⟩
            exact imp_keepTo [3, 4, 6, 42] (by kernel_rfl) (imp_done rfl)
        intro j2 hj2
        replace h := ky2 _ hj2
        refine a_cond (b := j2) (by kernel_rfl) (fun h6 => ?_) (fun h6 => ?_)
        · replace h := cT h6 h
          refine a_seq ?_
          refine a_ops [0, 1, 2, 3, 4, 5, 6] (by kernel_rfl) ?_
          refine ao_some [0, 1, 2, 3] [4, 5, 6] [4, 6, 44, 46] tyOK (st1 := mk 57 [(4, pV 4), (6, pV 6), (44, .one (.so [(6, 0)] 0 1 (((r3.wait).map eLock).length))), (46, .one (.so [] 46 0 1))] [(4, [.bx [.sl 6 ([]), .sl 6 ([])]]), (6, [.bx [lC 6 eLock r3.held, lC 6 eLock r3.wait]]), (46, [.sl 6 ([[iC p1.tx.c, iC p1.tx.e, iC p1.tx.n, sC p1.range.lo, sC p1.range.hi, bC p1.ex]])])]) (by kernel_rfl) ?_
          obtain ⟨c1, h⟩ := chk_e h
          refine ao_append (d := 47) (n := (((r3.wait).map eLock).length)) (n' := ((r3.wait ++ ([p1] : List Lock)).length)) (bytes := 64) (size := 6) (src := (some ([(6, 0)], 0, 1))) (rows := (r3.wait).map eLock) (tx := .one (.so [] 46 0 1)) (new := [[iC p1.tx.c, iC p1.tx.e, iC p1.tx.n, sC p1.range.lo, sC p1.range.hi, bC p1.ex]]) (rows' := (r3.wait ++ ([p1] : List Lock)).map eLock) (st1 := mk 57 [(4, pV 4), (6, pV 6), (47, .one (.so [] 47 0 ((r3.wait ++ ([p1] : List Lock)).length)))] [(4, [.bx [.sl 6 ([]), .sl 6 ([])]]), (6, [.bx [lC 6 eLock r3.held, .dead]]), (47, [lC 6 eLock (r3.wait ++ ([p1] : List Lock))])]) [4, 6, 47] tyOK (by kernel_rfl) (by kernel_rfl) (by simp) (by simpa using c1) (by kernel_rfl) (by simp [bC, eLock, eRange, eTx, frzC, iC, sC]) (by simp) (by kernel_rfl) ?_
          refine ao_someM [5] [6] tyOK (l1 := [(4, pV 4), (6, pV 6), (47, .one (.so [] 47 0 ((r3.wait ++ ([p1] : List Lock)).length))), (48, .one (.pl [(6, 0)] 0 1))]) (by kernel_rfl) ?_
          refine ao_o (ob := [(((r3.wait ++ ([p1] : List Lock)).map eLock).length, (r3.wait ++ ([p1] : List Lock)).length)]) (st1 := mk 57 [(4, pV 4), (6, pV 6)] [(4, [.bx [.sl 6 ([]), .sl 6 ([])]]), (6, [.bx [lC 6 eLock r3.held, lC 6 eLock (r3.wait ++ ([p1] : List Lock))]])]) [4, 6] tyOK (by kernel_rfl) ⟨by simp, trivial⟩ ?_
          refine ao_nil ?_
          refine a_seq ?_
          refine a_ops [0, 1, 2] (by kernel_rfl) ?_
          refine ao_someM [0] [1, 2] tyOK (l1 := [(4, pV 4), (49, .agg [.so [(6, 0)] 0 0 (((r3.held).map eLock).length), .so [(6, 0)] 0 1 (((r3.wait ++ ([p1] : List Lock)).map eLock).length)])]) (by kernel_rfl) ?_
          refine ao_o (ob := [(((r3.held).map eLock).length, ((r3.held).map eLock).length), (((r3.wait ++ ([p1] : List Lock)).map eLock).length, ((r3.wait ++ ([p1] : List Lock)).map eLock).length)]) (st1 := mk 57 [(4, pV 4)] [(4, [.bx [lC 6 eLock r3.held, lC 6 eLock (r3.wait ++ ([p1] : List Lock))]])]) [4] tyOK (by kernel_rfl) ⟨by simp, by simp, trivial⟩ ?_
          refine ao_someM [2] [] tyOK (l1 := [(4, pV 4), (5, iV 3)]) (by kernel_rfl) ?_
          refine ao_nil ?_
          refine a_ret ?_
          obtain rfl := Option.some.inj h
          exact end_own (ob := [(((r3.held).map eLock).length, ((r3.held).map eLock).length), (((r3.wait ++ ([p1] : List Lock)).map eLock).length, ((r3.wait ++ ([p1] : List Lock)).map eLock).length)]) (res' := .tup [.agg [.so [] 0 0 (((r3.held).map eLock).length), .so [] 0 1 (((r3.wait ++ ([p1] : List Lock)).map eLock).length)], .one (.c (iC 3))]) (row' := [lC 6 eLock r3.held, lC 6 eLock (r3.wait ++ ([p1] : List Lock))]) (by kernel_rfl) ⟨by simp, by simp, trivial⟩ (by first | rfl | simp) (by first | rfl | simp)
        · replace h := cF h6 h
          refine a_skip ?_
          refine a_seq ?_
          refine a_ops [0, 1, 2, 3, 4, 5, 6] (by kernel_rfl) ?_
          refine ao_some [0, 1, 2, 3] [4, 5, 6] [4, 6, 51, 53] tyOK (st1 := mk 57 [(4, pV 4), (6, pV 6), (51, .one (.so [(6, 0)] 0 0 (((r3.held).map eLock).length))), (53, .one (.so [] 53 0 1))] [(4, [.bx [.sl 6 ([]), .sl 6 ([])]]), (6, [.bx [lC 6 eLock r3.held, lC 6 eLock r3.wait]]), (53, [.sl 6 ([[iC p1.tx.c, iC p1.tx.e, iC p1.tx.n, sC p1.range.lo, sC p1.range.hi, bC p1.ex]])])]) (by kernel_rfl) ?_
          obtain ⟨c2, h⟩ := chk_e h
          refine ao_append (d := 54) (n := (((r3.held).map eLock).length)) (n' := ((r3.held ++ ([p1] : List Lock)).length)) (bytes := 64) (size := 6) (src := (some ([(6, 0)], 0, 0))) (rows := (r3.held).map eLock) (tx := .one (.so [] 53 0 1)) (new := [[iC p1.tx.c, iC p1.tx.e, iC p1.tx.n, sC p1.range.lo, sC p1.range.hi, bC p1.ex]]) (rows' := (r3.held ++ ([p1] : List Lock)).map eLock) (st1 := mk 57 [(4, pV 4), (6, pV 6), (54, .one (.so [] 54 0 ((r3.held ++ ([p1] : List Lock)).length)))] [(4, [.bx [.sl 6 ([]), .sl 6 ([])]]), (6, [.bx [.dead, lC 6 eLock r3.wait]]), (54, [lC 6 eLock (r3.held ++ ([p1] : List Lock))])]) [4, 6, 54] tyOK (by kernel_rfl) (by kernel_rfl) (by simp) (by simpa using c2) (by kernel_rfl) (by simp [bC, eLock, eRange, eTx, frzC, iC, sC]) (by simp) (by kernel_rfl) ?_
          refine ao_someM [5] [6] tyOK (l1 := [(4, pV 4), (6, pV 6), (54, .one (.so [] 54 0 ((r3.held ++ ([p1] : List Lock)).length))), (55, pV 6)]) (by kernel_rfl) ?_
          refine ao_o (ob := [(((r3.held ++ ([p1] : List Lock)).map eLock).length, (r3.held ++ ([p1] : List Lock)).length)]) (st1 := mk 57 [(4, pV 4), (6, pV 6)] [(4, [.bx [.sl 6 ([]), .sl 6 ([])]]), (6, [.bx [lC 6 eLock (r3.held ++ ([p1] : List Lock)), lC 6 eLock r3.wait]])]) [4, 6] tyOK (by kernel_rfl) ⟨by simp, trivial⟩ ?_
          refine ao_nil ?_
          refine a_seq ?_
          refine a_ops [0, 1, 2] (by kernel_rfl) ?_
          refine ao_someM [0] [1, 2] tyOK (l1 := [(4, pV 4), (56, .agg [.so [(6, 0)] 0 0 (((r3.held ++ ([p1] : List Lock)).map eLock).length), .so [(6, 0)] 0 1 (((r3.wait).map eLock).length)])]) (by kernel_rfl) ?_
          refine ao_o (ob := [(((r3.held ++ ([p1] : List Lock)).map eLock).length, ((r3.held ++ ([p1] : List Lock)).map eLock).length), (((r3.wait).map eLock).length, ((r3.wait).map eLock).length)]) (st1 := mk 57 [(4, pV 4)] [(4, [.bx [lC 6 eLock (r3.held ++ ([p1] : List Lock)), lC 6 eLock r3.wait]])]) [4] tyOK (by kernel_rfl) ⟨by simp, by simp, trivial⟩ ?_
          refine ao_someM [2] [] tyOK (l1 := [(4, pV 4), (5, iV 0)]) (by kernel_rfl) ?_
          refine ao_nil ?_
          refine a_ret ?_
          obtain rfl := Option.some.inj h
          exact end_own (ob := [(((r3.held ++ ([p1] : List Lock)).map eLock).length, ((r3.held ++ ([p1] : List Lock)).map eLock).length), (((r3.wait).map eLock).length, ((r3.wait).map eLock).length)]) (res' := .tup [.agg [.so [] 0 0 (((r3.held ++ ([p1] : List Lock)).map eLock).length), .so [] 0 1 (((r3.wait).map eLock).length)], .one (.c (iC 0))]) (row' := [lC 6 eLock (r3.held ++ ([p1] : List Lock)), lC 6 eLock r3.wait]) (by kernel_rfl) ⟨by simp, by simp, trivial⟩ (by first | rfl | simp) (by first | rfl | simp)


end Go.Proofs.Ytagoajkiccgmjaa
