/- Row 16: the program's CoordOk and the reference's return the same, whatever the coordinator. -/
import Derived.Test.YtgenimghpoemmaaGreatDoorRow16PartC
import Derived.Test.YtgenimghpoemmaaGreatDoorRows
import Derived.Test.YtgenimghpoemmaaGreatDoorCards
import Derived.Test.YtgenimghpoemmaaGreatDoorTie
import Derived.Lay
import Derived.LaidMore
import Derived.HandedShaped
import Derived.SevenTiedAt
import Derived.Stop.Joined
import Derived.WalkKit
import Derived.ProofKit
import Derived.OpenShut
import Derived.ShutString
import Derived.ChangeOld
import Derived.Below
import Derived.SizedLaws
set_option linter.unusedVariables false
set_option linter.unusedSimpArgs false
namespace Go.Proofs.YtgenimghpoemmaaGreatDoor.Row16
open Go.ChangeShapes Go.WideShapes Go.ChangeAt Go.RowKit Go.Mv
open Go.ChangeMaps (open_string shut_string)
theorem own : ownKnob Tryz.prog.godebug = none := by kernel_rfl
def laidL : List (String × DataW Unit) := [("unicode/utf8.acceptRanges", Rows.laid_unicode_utf8_acceptRanges), ("unicode/utf8.first", Rows.laid_unicode_utf8_first)]
theorem laidOut : laidOutB Tryz.prog = true := by kernel_rfl
set_option maxRecDepth 100000 in
theorem opens3 : fv Tryz.prog 3 (fun n : Int => [.v (.int .i64 n)]) (fun n => (Lit.int .i64 n).wf = true) := JS Tryz.underlying3
set_option maxRecDepth 100000 in
theorem opens9 : fv Tryz.prog 9 (fun s : ByteArray => [sC s]) (fun s => s.size <= 140737488351232) := JT Tryz.underlying9
set_option maxRecDepth 100000 in
theorem opens22 : fv Tryz.prog 22 (fun xs : List ByteArray => [.sl 1 (xs.map aq)]) (fun xs => xs.length * 16 <= 140737488351232 /\ ∀ x ∈ xs, (fun s => s.size <= 140737488351232) x) := ea Tryz.underlying22 (by kernel_rfl) (by kernel_rfl) (by decide) opens9
set_option maxRecDepth 100000 in
theorem opens5 : fv Tryz.prog 5 (fun n : Int => [.v (.int .u8 n)]) (fun n => (Lit.int .u8 n).wf = true) := JS Tryz.underlying5
set_option maxRecDepth 100000 in
theorem opens156 : fv Tryz.prog 156 (fun xs : List Int => [.sl 1 (xs.map ae)]) (fun xs => xs.length * 1 <= 140737488351232 /\ ∀ x ∈ xs, (fun n => (Lit.int .u8 n).wf = true) x) := ea Tryz.underlying156 (by kernel_rfl) (by kernel_rfl) (by decide) opens5
set_option maxRecDepth 100000 in
theorem opens176 : fv Tryz.prog 176 aj VC :=
 bW Tryz.underlying176 (fun H enc W fuel cs h1 h2 => by
  obtain ⟨y, k1, k2⟩ := (al (P := Tryz.prog) (off := 0) (fs := []) opens156 (by kernel_rfl : Tryz.prog.cellsOf 156 = 1) (cT)) H enc W fuel cs h1 h2
  exact ⟨⟨y.1⟩, by simpa [aj] using k1, by (exact ⟨(sl k2.1 (by decide)).1, fun n hn => wf_u8 (k2.1.2 n hn)⟩)⟩) (by kernel_rfl)
set_option maxRecDepth 100000 in
theorem opens23 : fv Tryz.prog 23 (fun xs : List bb => [.sl 1 (xs.map aj)]) (fun xs => xs.length * 24 <= 140737488351232 /\ ∀ x ∈ xs, VC x) := ea Tryz.underlying23 (by kernel_rfl) (by kernel_rfl) (by decide) opens176
set_option maxRecDepth 100000 in
theorem opens179 : fv Tryz.prog 179 ao (jy 140737488355328) :=
 bW Tryz.underlying179 (fun H enc W fuel cs h1 h2 => by
  obtain ⟨y, k1, k2⟩ := (al (P := Tryz.prog) (off := 0) (fs := [(1, 156)]) opens3 (by kernel_rfl : Tryz.prog.cellsOf 3 = 1) (al (P := Tryz.prog) (off := 1) (fs := []) opens156 (by kernel_rfl : Tryz.prog.cellsOf 156 = 1) (cT))) H enc W fuel cs h1 h2
  exact ⟨⟨y.1, y.2.1⟩, by simpa [ao] using k1, by (exact (sl k2.2.1 (by decide)).1)⟩) (by kernel_rfl)
set_option maxRecDepth 100000 in
theorem opens24 : fv Tryz.prog 24 (fun xs : List bc => [.sl 2 (xs.map ao)]) (fun xs => xs.length * 32 <= 140737488351232 /\ ∀ x ∈ xs, (jy 140737488355328) x) := ea Tryz.underlying24 (by kernel_rfl) (by kernel_rfl) (by decide) opens179
set_option maxRecDepth 100000 in
theorem opens26 : fv Tryz.prog 26 gZ YY :=
 bW Tryz.underlying26 (fun H enc W fuel cs h1 h2 => by
  obtain ⟨y, k1, k2⟩ := (al (P := Tryz.prog) (off := 0) (fs := [(1, 24)]) opens23 (by kernel_rfl : Tryz.prog.cellsOf 23 = 1) (al (P := Tryz.prog) (off := 1) (fs := []) opens24 (by kernel_rfl : Tryz.prog.cellsOf 24 = 1) (cT))) H enc W fuel cs h1 h2
  exact ⟨⟨y.1, y.2.1⟩, by simpa [gZ] using k1, by (exact ⟨⟨⟨(sl k2.1 (by decide)).1, fun x hx => (k2.1.2 x hx).1⟩, sl k2.2.1 (by decide)⟩, fun x hx => (k2.1.2 x hx).2⟩)⟩) (by kernel_rfl)
set_option maxRecDepth 100000 in
theorem opens184 : fv Tryz.prog 184 af (zU 140737488355328) :=
 bW Tryz.underlying184 (fun H enc W fuel cs h1 h2 => by
  obtain ⟨y, k1, k2⟩ := (al (P := Tryz.prog) (off := 0) (fs := [(1, 9)]) opens9 (by kernel_rfl : Tryz.prog.cellsOf 9 = 1) (al (P := Tryz.prog) (off := 1) (fs := []) opens9 (by kernel_rfl : Tryz.prog.cellsOf 9 = 1) (cT))) H enc W fuel cs h1 h2
  exact ⟨⟨y.1, y.2.1⟩, by simpa [af] using k1, by (exact ⟨leR k2.1, leR k2.2.1⟩)⟩) (by kernel_rfl)
set_option maxRecDepth 100000 in
theorem opens104 : fv Tryz.prog 104 (fun xs : List az => [.sl 2 (xs.map af)]) (fun xs => xs.length * 32 <= 140737488351232 /\ ∀ x ∈ xs, (zU 140737488355328) x) := ea Tryz.underlying104 (by kernel_rfl) (by kernel_rfl) (by decide) opens184
set_option maxRecDepth 100000 in
theorem opens30 : fv Tryz.prog 30 (fun xs : List Int => [.sl 1 (xs.map ah)]) (fun xs => xs.length * 8 <= 140737488351232 /\ ∀ x ∈ xs, (fun n => (Lit.int .i64 n).wf = true) x) := ea Tryz.underlying30 (by kernel_rfl) (by kernel_rfl) (by decide) opens3
set_option maxRecDepth 100000 in
theorem opens182 : fv Tryz.prog 182 aa (ua 140737488355328) :=
 bW Tryz.underlying182 (fun H enc W fuel cs h1 h2 => by
  obtain ⟨y, k1, k2⟩ := (al (P := Tryz.prog) (off := 0) (fs := [(1, 22), (2, 30)]) opens104 (by kernel_rfl : Tryz.prog.cellsOf 104 = 1) (al (P := Tryz.prog) (off := 1) (fs := [(2, 30)]) opens22 (by kernel_rfl : Tryz.prog.cellsOf 22 = 1) (al (P := Tryz.prog) (off := 2) (fs := []) opens30 (by kernel_rfl : Tryz.prog.cellsOf 30 = 1) (cT)))) H enc W fuel cs h1 h2
  exact ⟨⟨y.1, y.2.1, y.2.2.1⟩, by simpa [aa] using k1, by (exact ⟨sl k2.1 (by decide), strs k2.2.1 (by decide), (sl k2.2.2.1 (by decide)).1⟩)⟩) (by kernel_rfl)
set_option maxRecDepth 100000 in
theorem opens27 : fv Tryz.prog 27 (fun xs : List Node => [.sl 3 (xs.map aa)]) (fun xs => xs.length * 72 <= 140737488351232 /\ ∀ x ∈ xs, (ua 140737488355328) x) := ea Tryz.underlying27 (by kernel_rfl) (by kernel_rfl) (by decide) opens182
set_option maxRecDepth 100000 in
theorem opens29 : fv Tryz.prog 29 Uu (uc 140737488355328) :=
 bW Tryz.underlying29 (fun H enc W fuel cs h1 h2 => by
  obtain ⟨y, k1, k2⟩ := (al (P := Tryz.prog) (off := 0) (fs := []) opens27 (by kernel_rfl : Tryz.prog.cellsOf 27 = 1) (cT)) H enc W fuel cs h1 h2
  exact ⟨⟨y.1⟩, by simpa [Uu] using k1, by (exact sl k2.1 (by decide))⟩) (by kernel_rfl)
set_option maxRecDepth 100000 in
theorem opens32 : fv Tryz.prog 32 Rx XN :=
 bW Tryz.underlying32 (fun H enc W fuel cs h1 h2 => by
  obtain ⟨y, k1, k2⟩ := (al (P := Tryz.prog) (off := 0) (fs := [(2, 3), (3, 29), (4, 30)]) opens26 (by kernel_rfl : Tryz.prog.cellsOf 26 = 2) (al (P := Tryz.prog) (off := 2) (fs := [(3, 29), (4, 30)]) opens3 (by kernel_rfl : Tryz.prog.cellsOf 3 = 1) (al (P := Tryz.prog) (off := 3) (fs := [(4, 30)]) opens29 (by kernel_rfl : Tryz.prog.cellsOf 29 = 1) (al (P := Tryz.prog) (off := 4) (fs := []) opens30 (by kernel_rfl : Tryz.prog.cellsOf 30 = 1) (cT))))) H enc W fuel cs h1 h2
  exact ⟨⟨y.1, y.2.1, y.2.2.1, y.2.2.2.1⟩, by simpa [gZ, Rx, Uu] using k1, by (exact ⟨⟨k2.1.1, k2.2.2.1, (sl k2.2.2.2.1 (by decide)).1⟩, k2.1.2⟩)⟩) (by kernel_rfl)
set_option maxRecDepth 100000 in
theorem opens34 : fv Tryz.prog 34 eTx (fun _ => True) :=
 bW Tryz.underlying34 (fun H enc W fuel cs h1 h2 => by
  obtain ⟨y, k1, k2⟩ := (al (P := Tryz.prog) (off := 0) (fs := [(1, 3), (2, 3)]) opens3 (by kernel_rfl : Tryz.prog.cellsOf 3 = 1) (al (P := Tryz.prog) (off := 1) (fs := [(2, 3)]) opens3 (by kernel_rfl : Tryz.prog.cellsOf 3 = 1) (al (P := Tryz.prog) (off := 2) (fs := []) opens3 (by kernel_rfl : Tryz.prog.cellsOf 3 = 1) (cT)))) H enc W fuel cs h1 h2
  exact ⟨⟨y.1, y.2.1, y.2.2.1⟩, by simpa [eTx] using k1, by trivial⟩) (by kernel_rfl)
set_option maxRecDepth 100000 in
theorem opens36 : fv Tryz.prog 36 DI (EU 140737488355328) :=
 bW Tryz.underlying36 (fun H enc W fuel cs h1 h2 => by
  obtain ⟨y, k1, k2⟩ := (al (P := Tryz.prog) (off := 0) (fs := [(1, 9)]) opens9 (by kernel_rfl : Tryz.prog.cellsOf 9 = 1) (al (P := Tryz.prog) (off := 1) (fs := []) opens9 (by kernel_rfl : Tryz.prog.cellsOf 9 = 1) (cT))) H enc W fuel cs h1 h2
  exact ⟨⟨y.1, y.2.1⟩, by simpa [DI] using k1, by (exact ⟨leR k2.1, leR k2.2.1⟩)⟩) (by kernel_rfl)
set_option maxRecDepth 100000 in
theorem opens4 : fv Tryz.prog 4 (fun b : Bool => [bC b]) (fun _ => True) := Qo Tryz.underlying4
set_option maxRecDepth 100000 in
theorem opens38 : fv Tryz.prog 38 XH (QU 140737488355328) :=
 bW Tryz.underlying38 (fun H enc W fuel cs h1 h2 => by
  obtain ⟨y, k1, k2⟩ := (al (P := Tryz.prog) (off := 0) (fs := [(1, 9), (2, 9), (3, 36), (5, 3), (6, 4)]) opens3 (by kernel_rfl : Tryz.prog.cellsOf 3 = 1) (al (P := Tryz.prog) (off := 1) (fs := [(2, 9), (3, 36), (5, 3), (6, 4)]) opens9 (by kernel_rfl : Tryz.prog.cellsOf 9 = 1) (al (P := Tryz.prog) (off := 2) (fs := [(3, 36), (5, 3), (6, 4)]) opens9 (by kernel_rfl : Tryz.prog.cellsOf 9 = 1) (al (P := Tryz.prog) (off := 3) (fs := [(5, 3), (6, 4)]) opens36 (by kernel_rfl : Tryz.prog.cellsOf 36 = 2) (al (P := Tryz.prog) (off := 5) (fs := [(6, 4)]) opens3 (by kernel_rfl : Tryz.prog.cellsOf 3 = 1) (al (P := Tryz.prog) (off := 6) (fs := []) opens4 (by kernel_rfl : Tryz.prog.cellsOf 4 = 1) (cT))))))) H enc W fuel cs h1 h2
  exact ⟨⟨y.1, y.2.1, y.2.2.1, y.2.2.2.1, y.2.2.2.2.1, y.2.2.2.2.2.1⟩, by simpa [XH, DI] using k1, by (exact ⟨leR k2.2.1, leR k2.2.2.1, k2.2.2.2.1⟩)⟩) (by kernel_rfl)
set_option maxRecDepth 100000 in
theorem opens106 : fv Tryz.prog 106 cC (ET 140737488355328) :=
 bW Tryz.underlying106 (fun H enc W fuel cs h1 h2 => by
  obtain ⟨y, k1, k2⟩ := (al (P := Tryz.prog) (off := 0) (fs := [(1, 34), (4, 3), (5, 3), (6, 3), (7, 38), (14, 3), (15, 104), (16, 4)]) opens3 (by kernel_rfl : Tryz.prog.cellsOf 3 = 1) (al (P := Tryz.prog) (off := 1) (fs := [(4, 3), (5, 3), (6, 3), (7, 38), (14, 3), (15, 104), (16, 4)]) opens34 (by kernel_rfl : Tryz.prog.cellsOf 34 = 3) (al (P := Tryz.prog) (off := 4) (fs := [(5, 3), (6, 3), (7, 38), (14, 3), (15, 104), (16, 4)]) opens3 (by kernel_rfl : Tryz.prog.cellsOf 3 = 1) (al (P := Tryz.prog) (off := 5) (fs := [(6, 3), (7, 38), (14, 3), (15, 104), (16, 4)]) opens3 (by kernel_rfl : Tryz.prog.cellsOf 3 = 1) (al (P := Tryz.prog) (off := 6) (fs := [(7, 38), (14, 3), (15, 104), (16, 4)]) opens3 (by kernel_rfl : Tryz.prog.cellsOf 3 = 1) (al (P := Tryz.prog) (off := 7) (fs := [(14, 3), (15, 104), (16, 4)]) opens38 (by kernel_rfl : Tryz.prog.cellsOf 38 = 7) (al (P := Tryz.prog) (off := 14) (fs := [(15, 104), (16, 4)]) opens3 (by kernel_rfl : Tryz.prog.cellsOf 3 = 1) (al (P := Tryz.prog) (off := 15) (fs := [(16, 4)]) opens104 (by kernel_rfl : Tryz.prog.cellsOf 104 = 1) (al (P := Tryz.prog) (off := 16) (fs := []) opens4 (by kernel_rfl : Tryz.prog.cellsOf 4 = 1) (cT)))))))))) H enc W fuel cs h1 h2
  exact ⟨⟨y.1, y.2.1, y.2.2.1, y.2.2.2.1, y.2.2.2.2.1, y.2.2.2.2.2.1, y.2.2.2.2.2.2.1, y.2.2.2.2.2.2.2.1, y.2.2.2.2.2.2.2.2.1⟩, by simpa [XH, cC, DI, eTx] using k1, by (exact ⟨k2.2.2.2.2.2.1, sl k2.2.2.2.2.2.2.2.1 (by decide)⟩)⟩) (by kernel_rfl)
set_option maxRecDepth 100000 in
theorem opens39 : fv Tryz.prog 39 (fun xs : List Msg => [.sl 17 (xs.map cC)]) (fun xs => xs.length * 184 <= 140737488351232 /\ ∀ x ∈ xs, (ET 140737488355328) x) := ea Tryz.underlying39 (by kernel_rfl) (by kernel_rfl) (by decide) opens106
set_option maxRecDepth 100000 in
theorem opens41 : fv Tryz.prog 41 dP VB :=
 bW Tryz.underlying41 (fun H enc W fuel cs h1 h2 => by
  obtain ⟨y, k1, k2⟩ := (al (P := Tryz.prog) (off := 0) (fs := [(1, 22), (2, 32), (7, 3), (8, 3), (9, 3), (10, 34), (13, 30), (14, 30), (15, 30), (16, 38), (23, 39), (24, 3)]) opens3 (by kernel_rfl : Tryz.prog.cellsOf 3 = 1) (al (P := Tryz.prog) (off := 1) (fs := [(2, 32), (7, 3), (8, 3), (9, 3), (10, 34), (13, 30), (14, 30), (15, 30), (16, 38), (23, 39), (24, 3)]) opens22 (by kernel_rfl : Tryz.prog.cellsOf 22 = 1) (al (P := Tryz.prog) (off := 2) (fs := [(7, 3), (8, 3), (9, 3), (10, 34), (13, 30), (14, 30), (15, 30), (16, 38), (23, 39), (24, 3)]) opens32 (by kernel_rfl : Tryz.prog.cellsOf 32 = 5) (al (P := Tryz.prog) (off := 7) (fs := [(8, 3), (9, 3), (10, 34), (13, 30), (14, 30), (15, 30), (16, 38), (23, 39), (24, 3)]) opens3 (by kernel_rfl : Tryz.prog.cellsOf 3 = 1) (al (P := Tryz.prog) (off := 8) (fs := [(9, 3), (10, 34), (13, 30), (14, 30), (15, 30), (16, 38), (23, 39), (24, 3)]) opens3 (by kernel_rfl : Tryz.prog.cellsOf 3 = 1) (al (P := Tryz.prog) (off := 9) (fs := [(10, 34), (13, 30), (14, 30), (15, 30), (16, 38), (23, 39), (24, 3)]) opens3 (by kernel_rfl : Tryz.prog.cellsOf 3 = 1) (al (P := Tryz.prog) (off := 10) (fs := [(13, 30), (14, 30), (15, 30), (16, 38), (23, 39), (24, 3)]) opens34 (by kernel_rfl : Tryz.prog.cellsOf 34 = 3) (al (P := Tryz.prog) (off := 13) (fs := [(14, 30), (15, 30), (16, 38), (23, 39), (24, 3)]) opens30 (by kernel_rfl : Tryz.prog.cellsOf 30 = 1) (al (P := Tryz.prog) (off := 14) (fs := [(15, 30), (16, 38), (23, 39), (24, 3)]) opens30 (by kernel_rfl : Tryz.prog.cellsOf 30 = 1) (al (P := Tryz.prog) (off := 15) (fs := [(16, 38), (23, 39), (24, 3)]) opens30 (by kernel_rfl : Tryz.prog.cellsOf 30 = 1) (al (P := Tryz.prog) (off := 16) (fs := [(23, 39), (24, 3)]) opens38 (by kernel_rfl : Tryz.prog.cellsOf 38 = 7) (al (P := Tryz.prog) (off := 23) (fs := [(24, 3)]) opens39 (by kernel_rfl : Tryz.prog.cellsOf 39 = 1) (al (P := Tryz.prog) (off := 24) (fs := []) opens3 (by kernel_rfl : Tryz.prog.cellsOf 3 = 1) (cT)))))))))))))) H enc W fuel cs h1 h2
  exact ⟨⟨y.1, y.2.1, y.2.2.1, y.2.2.2.1, y.2.2.2.2.1, y.2.2.2.2.2.1, y.2.2.2.2.2.2.1, y.2.2.2.2.2.2.2.1, y.2.2.2.2.2.2.2.2.1, y.2.2.2.2.2.2.2.2.2.1, y.2.2.2.2.2.2.2.2.2.2.1, y.2.2.2.2.2.2.2.2.2.2.2.1, y.2.2.2.2.2.2.2.2.2.2.2.2.1⟩, by simpa [XH, dP, gZ, DI, Rx, Uu, eTx] using k1, by (exact ⟨⟨strs k2.2.1 (by decide), k2.2.2.1.1, (sl k2.2.2.2.2.2.2.2.1 (by decide)).1, (sl k2.2.2.2.2.2.2.2.2.1 (by decide)).1, (sl k2.2.2.2.2.2.2.2.2.2.1 (by decide)).1, k2.2.2.2.2.2.2.2.2.2.2.1, sl k2.2.2.2.2.2.2.2.2.2.2.2.1 (by decide)⟩, k2.2.2.1.2⟩)⟩) (by kernel_rfl)
set_option maxRecDepth 100000 in
theorem lifted (os : Os) (started : os.Started) (H : Type) (enc : TypeId × Value -> H) :
  ReturnsInHanded {} Tryz.checked os 3 .any (fun w args => (Rows.fnExactCoordOkSpec.pre enc Tryz.prog Tryz.f3 [] false w args /\ laidMetH Tryz.prog laidL w) /\ sizedMet enc Tryz.prog Tryz.f3 (OpenSpec.ofChange Rows.fnExactCoordOkSpec) false w args) (Rows.fnExactCoordOkSpec.post enc Tryz.prog Tryz.f3 false true false false) := by
 refine returnsInHanded_of_change_and (C := Tryz.checked) (X := fun w _ => laidMetH Tryz.prog laidL w) (fun _ _ _ hh h => h.of_heap hh) own started (by kernel_rfl) Tryz.func3
  (ChangeSpec.witness_shaped (enc := enc) (C := Tryz.checked) (os := os) (X := fun w _ => laidMetH Tryz.prog laidL w) false (World.laidAll Tryz.prog os laidL) #[.agg #[.int .i64 0, .slice none 0 0, .slice none 0 0, .slice none 0 0, .int .i64 0, .slice none 0 0, .slice none 0 0, .int .i64 0, .int .i64 0, .int .i64 0, .int .i64 0, .int .i64 0, .int .i64 0, .slice none 0 0, .slice none 0 0, .slice none 0 0, .int .i64 0, .string ⟨#[]⟩, .string ⟨#[]⟩, .string ⟨#[]⟩, .string ⟨#[]⟩, .int .i64 0, .bool false, .slice none 0 0, .int .i64 0]] 8 (World.laidAll_os _ _ _)
   (World.shaped_of_ZipB (by kernel_rfl) (by kernel_rfl)) (by kernel_rfl) (by kernel_rfl) (by kernel_rfl)
   (by rw [MakeChecks.laidMetH_plain _ _ _ (by kernel_rfl)]; exact laidMet_laidAll _ (by kernel_rfl) (by kernel_rfl))) ?_
 intro W base args ds gs before hval0 hW hcnd hsz0 _ _
 have hsz : (DataW.weightsEach Tryz.prog (Tryz.f3.params.toList ++ Rows.fnExactCoordOkSpec.plain.varTypes Tryz.prog) (ds ++ gs)).all (· <= reachBytes) = true := hsz0
 have hval : ∀ (j : Nat) t v, Tryz.f3.params[j]? = some t -> args[j]? = some v -> Value.okWide Tryz.prog W .any base t v := hval0
 have hW' := hW
 obtain ⟨p, q, hA0, hV, rfl, hfz, hnd⟩ := hW
 have hA : DataW.TrodAll enc Tryz.prog W 0 (fun _ => true) true Tryz.f3.params.toList args.toList ds p := hA0
 rw [Tryz.params3] at hA hval hsz
 obtain ⟨v0, vs0, d0, ds0, p0, q0, hargs, rfl, rfl, h0, r0⟩ := trodAll_cons hA
 obtain ⟨rfl, rfl, rfl⟩ := trodAll_nil r0
 obtain rfl : args = #[v0] := by cases args; simp_all
 obtain ⟨rfl, rfl⟩ := trodVars_none hV
 have k0 := h0
 have lt0 : ∀ x ∈ p0, x.block < W.heap.size := by obtain ⟨m, hm⟩ := k0; exact DataW.trod_lt m _ _ _ hm
 have wt0 : ∀ n ∈ d0.weights Tryz.prog 41, n <= 140737488351232 := fun n hn => by have := List.all_eq_true.1 hsz n (DataW.weights_mem_each (j := 0) (t := 41) rfl rfl n hn); exact of_decide_eq_true this
 obtain ⟨c0, e0, _, _⟩ : ∃ cs, v0 = .agg cs /\ cs.size = _ /\ _ := by have := (hval 0 41 v0 rfl rfl); simpa only [Value.okWide, Tryz.underlying41] using this
 subst e0
 obtain ⟨m0, hf0⟩ := h0
 obtain ⟨y0, z0, o0⟩ := opens41 H enc W m0 _ _ hf0 wt0
 have tv0 : aD W (fun b => b < W.heap.size) (fun _ => none) (.agg [.c (iC y0.id), .c (lC 1 aq y0.splits), .c (lC 1 aj y0.store.disk.sheets), .c (lC 2 ao y0.store.disk.dirty), .c (iC y0.store.gen), .c (lC 3 aa y0.store.tree.nodes), .c (lC 1 ah y0.store.places), .c (iC y0.epoch), .c (iC y0.num), .c (iC y0.phase), .c (iC y0.tx.c), .c (iC y0.tx.e), .c (iC y0.tx.n), .c (lC 1 ah y0.counts), .c (lC 1 ah y0.stamps), .c (lC 1 ah y0.pend), .c (iC y0.ask.kind), .c (sC y0.ask.key), .c (sC y0.ask.val), .c (sC y0.ask.range.lo), .c (sC y0.ask.range.hi), .c (iC y0.ask.most), .c (bC y0.ask.back), .c (lC 17 cC y0.got), .c (iC y0.age)]) (.agg c0) := ⟨c0.toList, by simp, bG.told z0⟩
 clear hA0 hval0 hsz0
 refine (Qn y0 (o0) W (fun b => b < W.heap.size) [.agg c0] (fun b hb => hb) (.cons tv0 .nil)).mono fun e W' ⟨v, he, ret⟩ => ?_
 subst he
 obtain ⟨bel, _, _, _, _, _, _, hv, _⟩ := ret
 have hv := jC hv
 subst hv
 exact ⟨_, rfl, _, _, _, [], _, [], hW', trodAll_mk1 (shut_bool Tryz.underlying4 _), (trodAll_cons_mk (Below.trod laidOut (by kernel_rfl) (of_decide_eq_true (by kernel_rfl)) k0 bel lt0) trodAll_mk0), rfl, bel.frame _, fun h => by cases h⟩
theorem over : Rows.fnExactCoordOkRow.holds Tryz.pinned (OpenSpec.ofChange Rows.fnExactCoordOkSpec) :=
 OpenClaim.holds_of_wide 3 Tryz.f3 rfl rfl rfl rfl rfl rfl rfl ⟨rfl, rfl, rfl, rfl, rfl⟩ rfl rfl rfl rfl rfl (by kernel_rfl) Tryz.func3 (by kernel_rfl)
  (of_decide_eq_true (by kernel_rfl)) (by unfold Func.isWrapper; first | (rw [if_pos (by decide +kernel)]; kernel_rfl) | (rw [if_neg (by decide +kernel)]; exact ⟨rfl, rfl⟩))
  (fun os started H enc _ => lifted os started H enc)
theorem proved : Rows.FnExactCoordOkCardSaid :=
 Claim7.holds_tied_plain_at .later [] [.data, .pinned] true (true, "ac3be0d12b0473b26f51abc03a758a5bfe7bf17c7b653a1aa777fe9b1c6c4129") false over (fun _ h => by cases h) (by kernel_rfl) (fun _ h => by cases h) fnExactCoordOk_row_tie rfl ⟨rfl, rfl⟩ (by kernel_rfl) rfl
  (fun f fn hf hfn => by
   obtain rfl : f = 3 := Option.some.inj ((show Tryz.prog.funcNamed "loop.example/g00392/laws.FnExactCoordOk" = some 3 by kernel_rfl).symm.trans hf) |>.symm
   obtain rfl : fn = Tryz.f3 := (Option.some.inj (Tryz.func3.symm.trans hfn)).symm
   exact ⟨by kernel_rfl, fun j t ht => by
    rw [Tryz.params3] at ht
    have hm : t ∈ [41] := by simpa using Array.mem_of_getElem? ht
    have hall : ([41].all fun u => !Tryz.prog.wantsStandIn u) = true := by kernel_rfl
    exact (show Tryz.prog.wantsStandIn t = false by simpa using List.all_eq_true.1 hall t hm)⟩)
  (by kernel_rfl)
#print axioms proved
end Go.Proofs.YtgenimghpoemmaaGreatDoor.Row16
