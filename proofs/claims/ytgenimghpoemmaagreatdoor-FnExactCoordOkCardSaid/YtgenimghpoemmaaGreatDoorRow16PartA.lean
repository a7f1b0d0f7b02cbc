/- What functions of the given program compute, each proved once, for the law that is proved in YtgenimghpoemmaaGreatDoorRow16: whatever their arguments, under the conditions that each theorem names. -/
import Derived.Test.YtgenimghpoemmaaGreatDoorProg
import Derived.Test.YtgenimghpoemmaaGreatDoorMvVII
import Derived.Shelf.Strings.OnBuilder
set_option linter.unusedVariables false
set_option linter.unusedSimpArgs false
namespace Go.Proofs.YtgenimghpoemmaaGreatDoor
open Go.Mv Go.RowKit
noncomputable section
set_option maxRecDepth 100000
theorem Lf : EqD Tryz.prog 10000 53 [.int .i64, .int .i64, .int .i64] :=
 mS (d := 9999) (fs := [⟨ "C", 3, 0, false, "", "", 0⟩, ⟨ "E", 3, 1, false, "", "", 8⟩, ⟨ "N", 3, 2, false, "", "", 16⟩]) (by kernel_rfl) (by kernel_rfl) (by kernel_rfl) (cU (by decide) rfl Tryz.isAgg3 (Ao (d := 9998) Tryz.underlying3) (cU (by decide) rfl Tryz.isAgg3 (Ao (d := 9998) Tryz.underlying3) (cU (by decide) rfl Tryz.isAgg3 (Ao (d := 9998) Tryz.underlying3) uj)))
theorem Yk : XE Tryz.prog 53 [.int .i64, .int .i64, .int .i64] := Fp Tryz.eqGuardType53 Lf
theorem Lg : EqD Tryz.prog 10000 54 [.str, .str] :=
 mS (d := 9999) (fs := [⟨ "Lo", 9, 0, false, "", "", 0⟩, ⟨ "Hi", 9, 1, false, "", "", 16⟩]) (by kernel_rfl) (by kernel_rfl) (by kernel_rfl) (cU (by decide) rfl Tryz.isAgg9 (pJ (d := 9998) Tryz.underlying9) (cU (by decide) rfl Tryz.isAgg9 (pJ (d := 9998) Tryz.underlying9) uj))
theorem Yl : XE Tryz.prog 54 [.str, .str] := Fp Tryz.eqGuardType54 Lg
theorem Po : EqD Tryz.prog 9999 54 [.str, .str] :=
 mS (d := 9998) (fs := [⟨ "Lo", 9, 0, false, "", "", 0⟩, ⟨ "Hi", 9, 1, false, "", "", 16⟩]) (by kernel_rfl) (by kernel_rfl) (by kernel_rfl) (cU (by decide) rfl Tryz.isAgg9 (pJ (d := 9997) Tryz.underlying9) (cU (by decide) rfl Tryz.isAgg9 (pJ (d := 9997) Tryz.underlying9) uj))
theorem Lh : EqD Tryz.prog 10000 56 [.int .i64, .str, .str, .str, .str, .int .i64, .bool] :=
 mS (d := 9999) (fs := [⟨ "Kind", 3, 0, false, "", "", 0⟩, ⟨ "Key", 9, 1, false, "", "", 8⟩, ⟨ "Val", 9, 2, false, "", "", 24⟩, ⟨ "Range", 54, 3, false, "", "", 40⟩, ⟨ "Most", 3, 5, false, "", "", 72⟩, ⟨ "Back", 4, 6, false, "", "", 80⟩]) (by kernel_rfl) (by kernel_rfl) (by kernel_rfl) (cU (by decide) rfl Tryz.isAgg3 (Ao (d := 9998) Tryz.underlying3) (cU (by decide) rfl Tryz.isAgg9 (pJ (d := 9998) Tryz.underlying9) (cU (by decide) rfl Tryz.isAgg9 (pJ (d := 9998) Tryz.underlying9) (Lj (by decide) rfl Tryz.isAgg54 Tryz.sizeOf54 rfl Po (ks := [.int .i64, .bool]) rfl (cU (by decide) rfl Tryz.isAgg3 (Ao (d := 9998) Tryz.underlying3) (cU (by decide) rfl Tryz.isAgg4 (Uv (d := 9998) Tryz.underlying4) uj))))))
theorem Ym : XE Tryz.prog 56 [.int .i64, .str, .str, .str, .str, .int .i64, .bool] := Fp Tryz.eqGuardType56 Lh
theorem Io : EqD Tryz.prog 10000 115 [.str, .str] :=
 mS (d := 9999) (fs := [⟨ "Key", 9, 0, false, "", "", 0⟩, ⟨ "Val", 9, 1, false, "", "", 16⟩]) (by kernel_rfl) (by kernel_rfl) (by kernel_rfl) (cU (by decide) rfl Tryz.isAgg9 (pJ (d := 9998) Tryz.underlying9) (cU (by decide) rfl Tryz.isAgg9 (pJ (d := 9998) Tryz.underlying9) uj))
theorem WE : XE Tryz.prog 115 [.str, .str] := Fp Tryz.eqGuardType115 Io
def tyL : List (Nat × jj) := [
 (3, { k := .int .i64, size := 1, bytes := 8, zero := .int .i64 0 }),
 (4, { k := .bool, size := 1, bytes := 1, zero := .bool false }),
 (5, { k := .int .u8, size := 1, bytes := 1, zero := .int .u8 0 }),
 (9, { k := .string, size := 1, bytes := 16, zero := .string ⟨#[]⟩ }),
 (22, { k := .slice 9, size := 1, bytes := 24, zero := .slice none 0 0, szs := [1] }),
 (23, { k := .slice 176, size := 1, bytes := 24, zero := .slice none 0 0, szs := [1] }),
 (24, { k := .slice 179, size := 1, bytes := 24, zero := .slice none 0 0, szs := [2] }),
 (26, { k := .struct [(0, 23), (1, 24)], size := 2, bytes := 48, zero := .agg #[.slice none 0 0, .slice none 0 0], szs := [1, 2] }),
 (27, { k := .slice 182, size := 1, bytes := 24, zero := .slice none 0 0, szs := [3] }),
 (29, { k := .struct [(0, 27)], size := 1, bytes := 24, zero := .agg #[.slice none 0 0], szs := [3] }),
 (30, { k := .slice 3, size := 1, bytes := 24, zero := .slice none 0 0, szs := [1] }),
 (32, { k := .struct [(0, 26), (2, 3), (3, 29), (4, 30)], size := 5, bytes := 104, zero := .agg #[.slice none 0 0, .slice none 0 0, .int .i64 0, .slice none 0 0, .slice none 0 0], szs := [1, 2, 0, 3, 1] }),
 (34, { k := .struct [(0, 3), (1, 3), (2, 3)], size := 3, bytes := 24, zero := .agg #[.int .i64 0, .int .i64 0, .int .i64 0] }),
 (36, { k := .struct [(0, 9), (1, 9)], size := 2, bytes := 32, zero := .agg #[.string ⟨#[]⟩, .string ⟨#[]⟩] }),
 (38, { k := .struct [(0, 3), (1, 9), (2, 9), (3, 36), (5, 3), (6, 4)], size := 7, bytes := 88, zero := .agg #[.int .i64 0, .string ⟨#[]⟩, .string ⟨#[]⟩, .string ⟨#[]⟩, .string ⟨#[]⟩, .int .i64 0, .bool false] }),
 (39, { k := .slice 106, size := 1, bytes := 24, zero := .slice none 0 0, szs := [17] }),
 (41, { k := .struct [(0, 3), (1, 22), (2, 32), (7, 3), (8, 3), (9, 3), (10, 34), (13, 30), (14, 30), (15, 30), (16, 38), (23, 39), (24, 3)], size := 25, bytes := 376, zero := .agg #[.int .i64 0, .slice none 0 0, .slice none 0 0, .slice none 0 0, .int .i64 0, .slice none 0 0, .slice none 0 0, .int .i64 0, .int .i64 0, .int .i64 0, .int .i64 0, .int .i64 0, .int .i64 0, .slice none 0 0, .slice none 0 0, .slice none 0 0, .int .i64 0, .string ⟨#[]⟩, .string ⟨#[]⟩, .string ⟨#[]⟩, .string ⟨#[]⟩, .int .i64 0, .bool false, .slice none 0 0, .int .i64 0], szs := [0, 1, 1, 2, 0, 3, 1, 0, 0, 0, 0, 0, 0, 1, 1, 1, 0, 0, 0, 0, 0, 0, 0, 17, 0] }),
 (44, { k := .slice 185, size := 1, bytes := 24, zero := .slice none 0 0, szs := [1] }),
 (45, { k := .slice 186, size := 1, bytes := 24, zero := .slice none 0 0, szs := [2] }),
 (47, { k := .struct [(0, 44), (1, 45)], size := 2, bytes := 48, zero := .agg #[.slice none 0 0, .slice none 0 0], szs := [1, 2] }),
 (48, { k := .slice 149, size := 1, bytes := 24, zero := .slice none 0 0, szs := [3] }),
 (50, { k := .struct [(0, 48)], size := 1, bytes := 24, zero := .agg #[.slice none 0 0], szs := [3] }),
 (52, { k := .struct [(0, 47), (2, 3), (3, 50), (4, 30)], size := 5, bytes := 104, zero := .agg #[.slice none 0 0, .slice none 0 0, .int .i64 0, .slice none 0 0, .slice none 0 0], szs := [1, 2, 0, 3, 1] }),
 (53, { k := .struct [(0, 3), (1, 3), (2, 3)], size := 3, bytes := 24, zero := .agg #[.int .i64 0, .int .i64 0, .int .i64 0], eqs := some [.int .i64, .int .i64, .int .i64] }),
 (54, { k := .struct [(0, 9), (1, 9)], size := 2, bytes := 32, zero := .agg #[.string ⟨#[]⟩, .string ⟨#[]⟩], eqs := some [.str, .str] }),
 (56, { k := .struct [(0, 3), (1, 9), (2, 9), (3, 54), (5, 3), (6, 4)], size := 7, bytes := 88, zero := .agg #[.int .i64 0, .string ⟨#[]⟩, .string ⟨#[]⟩, .string ⟨#[]⟩, .string ⟨#[]⟩, .int .i64 0, .bool false], eqs := some [.int .i64, .str, .str, .str, .str, .int .i64, .bool] }),
 (57, { k := .slice 78, size := 1, bytes := 24, zero := .slice none 0 0, szs := [17] }),
 (59, { k := .struct [(0, 3), (1, 22), (2, 52), (7, 3), (8, 3), (9, 3), (10, 53), (13, 30), (14, 30), (15, 30), (16, 56), (23, 57), (24, 3)], size := 25, bytes := 376, zero := .agg #[.int .i64 0, .slice none 0 0, .slice none 0 0, .slice none 0 0, .int .i64 0, .slice none 0 0, .slice none 0 0, .int .i64 0, .int .i64 0, .int .i64 0, .int .i64 0, .int .i64 0, .int .i64 0, .slice none 0 0, .slice none 0 0, .slice none 0 0, .int .i64 0, .string ⟨#[]⟩, .string ⟨#[]⟩, .string ⟨#[]⟩, .string ⟨#[]⟩, .int .i64 0, .bool false, .slice none 0 0, .int .i64 0], szs := [0, 1, 1, 2, 0, 3, 1, 0, 0, 0, 0, 0, 0, 1, 1, 1, 0, 0, 0, 0, 0, 0, 0, 17, 0] }),
 (76, { k := .slice 115, size := 1, bytes := 24, zero := .slice none 0 0, szs := [2] }),
 (78, { k := .struct [(0, 3), (1, 53), (4, 3), (5, 3), (6, 3), (7, 56), (14, 3), (15, 76), (16, 4)], size := 17, bytes := 184, zero := .agg #[.int .i64 0, .int .i64 0, .int .i64 0, .int .i64 0, .int .i64 0, .int .i64 0, .int .i64 0, .int .i64 0, .string ⟨#[]⟩, .string ⟨#[]⟩, .string ⟨#[]⟩, .string ⟨#[]⟩, .int .i64 0, .bool false, .int .i64 0, .slice none 0 0, .bool false], szs := [0, 0, 0, 0, 0, 0, 0, 0, 0, 0, 0, 0, 0, 0, 0, 2, 0] }),
 (104, { k := .slice 184, size := 1, bytes := 24, zero := .slice none 0 0, szs := [2] }),
 (106, { k := .struct [(0, 3), (1, 34), (4, 3), (5, 3), (6, 3), (7, 38), (14, 3), (15, 104), (16, 4)], size := 17, bytes := 184, zero := .agg #[.int .i64 0, .int .i64 0, .int .i64 0, .int .i64 0, .int .i64 0, .int .i64 0, .int .i64 0, .int .i64 0, .string ⟨#[]⟩, .string ⟨#[]⟩, .string ⟨#[]⟩, .string ⟨#[]⟩, .int .i64 0, .bool false, .int .i64 0, .slice none 0 0, .bool false], szs := [0, 0, 0, 0, 0, 0, 0, 0, 0, 0, 0, 0, 0, 0, 0, 2, 0] }),
 (115, { k := .struct [(0, 9), (1, 9)], size := 2, bytes := 32, zero := .agg #[.string ⟨#[]⟩, .string ⟨#[]⟩], eqs := some [.str, .str] }),
 (127, { k := .other, size := 1, bytes := 8, zero := .pointer none }),
 (140, { k := .struct [(0, 3), (1, 3)], size := 2, bytes := 16, zero := .agg #[.int .i64 0, .int .i64 0] }),
 (149, { k := .struct [(0, 76), (1, 22), (2, 30)], size := 3, bytes := 72, zero := .agg #[.slice none 0 0, .slice none 0 0, .slice none 0 0], szs := [2, 1, 1] }),
 (150, { k := .slice 152, size := 1, bytes := 24, zero := .slice none 0 0, szs := [3] }),
 (152, { k := .struct [(0, 4), (1, 76), (2, 150)], size := 3, bytes := 56, zero := .agg #[.bool false, .slice none 0 0, .slice none 0 0], szs := [0, 2, 3] }),
 (156, { k := .slice 5, size := 1, bytes := 24, zero := .slice none 0 0, szs := [1] }),
 (162, { k := .other, size := 1, bytes := 8, zero := .pointer none }),
 (163, { k := .other, size := 1, bytes := 8, zero := .pointer none }),
 (165, { k := .struct [(0, 163), (1, 48), (2, 30), (3, 4)], size := 4, bytes := 64, zero := .agg #[.pointer none, .slice none 0 0, .slice none 0 0, .bool false], szs := [0, 3, 1, 0] }),
 (176, { k := .struct [(0, 156)], size := 1, bytes := 24, zero := .agg #[.slice none 0 0], szs := [1] }),
 (179, { k := .struct [(0, 3), (1, 156)], size := 2, bytes := 32, zero := .agg #[.int .i64 0, .slice none 0 0], szs := [0, 1] }),
 (182, { k := .struct [(0, 104), (1, 22), (2, 30)], size := 3, bytes := 72, zero := .agg #[.slice none 0 0, .slice none 0 0, .slice none 0 0], szs := [2, 1, 1] }),
 (184, { k := .struct [(0, 9), (1, 9)], size := 2, bytes := 32, zero := .agg #[.string ⟨#[]⟩, .string ⟨#[]⟩] }),
 (185, { k := .struct [(0, 156)], size := 1, bytes := 24, zero := .agg #[.slice none 0 0], szs := [1] }),
 (186, { k := .struct [(0, 3), (1, 156)], size := 2, bytes := 32, zero := .agg #[.int .i64 0, .slice none 0 0], szs := [0, 1] }),
 (191, { k := .struct [(0, 22), (1, 22), (2, 30)], size := 3, bytes := 72, zero := .agg #[.slice none 0 0, .slice none 0 0, .slice none 0 0], szs := [1, 1, 1] }),
 (205, { k := .other, size := 1, bytes := 8, zero := .pointer none }),
 (227, { k := .int .u64, size := 1, bytes := 8, zero := .int .u64 0 }),
 (228, { k := .other, size := 1, bytes := 8, zero := .pointer none }),
 (230, { k := .struct [(0, 156), (1, 3), (2, 4)], size := 3, bytes := 40, zero := .agg #[.slice none 0 0, .int .i64 0, .bool false], szs := [1, 0, 0] }),
 (234, { k := .other, size := 1, bytes := 8, zero := .pointer none }),
 (248, { k := .slice 205, size := 1, bytes := 24, zero := .slice none 0 0, szs := [1] }),
 (250, { k := .struct [(0, 76), (1, 248)], size := 2, bytes := 48, zero := .agg #[.slice none 0 0, .slice none 0 0], szs := [2, 1] })]
abbrev Ty := Zw tyL
theorem aG : lT Tryz.prog Ty := Xx (by
 simp only [tyL, List.forall_mem_cons]
 refine ⟨⟨Tryz.underlying3, ⟨Tryz.t3, by kernel_rfl, rfl, rfl, rfl⟩, nofun⟩, ?_⟩
 refine ⟨⟨Tryz.underlying4, ⟨Tryz.t4, by kernel_rfl, rfl, rfl, rfl⟩, nofun⟩, ?_⟩
 refine ⟨⟨Tryz.underlying5, ⟨Tryz.t5, by kernel_rfl, rfl, rfl, rfl⟩, nofun⟩, ?_⟩
 refine ⟨⟨Tryz.underlying9, ⟨Tryz.t9, by kernel_rfl, rfl, rfl, rfl⟩, nofun⟩, ?_⟩
 refine ⟨⟨Tryz.underlying22, ⟨Tryz.t22, by kernel_rfl, rfl, rfl, rfl⟩, nofun⟩, ?_⟩
 refine ⟨⟨Tryz.underlying23, ⟨Tryz.t23, by kernel_rfl, rfl, rfl, rfl⟩, nofun⟩, ?_⟩
 refine ⟨⟨Tryz.underlying24, ⟨Tryz.t24, by kernel_rfl, rfl, rfl, rfl⟩, nofun⟩, ?_⟩
 refine ⟨⟨⟨_, Tryz.underlying26, rfl⟩, ⟨Tryz.t26, by kernel_rfl, rfl, rfl, rfl⟩, nofun⟩, ?_⟩
 refine ⟨⟨Tryz.underlying27, ⟨Tryz.t27, by kernel_rfl, rfl, rfl, rfl⟩, nofun⟩, ?_⟩
 refine ⟨⟨⟨_, Tryz.underlying29, rfl⟩, ⟨Tryz.t29, by kernel_rfl, rfl, rfl, rfl⟩, nofun⟩, ?_⟩
 refine ⟨⟨Tryz.underlying30, ⟨Tryz.t30, by kernel_rfl, rfl, rfl, rfl⟩, nofun⟩, ?_⟩
 refine ⟨⟨⟨_, Tryz.underlying32, rfl⟩, ⟨Tryz.t32, by kernel_rfl, rfl, rfl, rfl⟩, nofun⟩, ?_⟩
 refine ⟨⟨⟨_, Tryz.underlying34, rfl⟩, ⟨Tryz.t34, by kernel_rfl, rfl, rfl, rfl⟩, nofun⟩, ?_⟩
 refine ⟨⟨⟨_, Tryz.underlying36, rfl⟩, ⟨Tryz.t36, by kernel_rfl, rfl, rfl, rfl⟩, nofun⟩, ?_⟩
 refine ⟨⟨⟨_, Tryz.underlying38, rfl⟩, ⟨Tryz.t38, by kernel_rfl, rfl, rfl, rfl⟩, nofun⟩, ?_⟩
 refine ⟨⟨Tryz.underlying39, ⟨Tryz.t39, by kernel_rfl, rfl, rfl, rfl⟩, nofun⟩, ?_⟩
 refine ⟨⟨⟨_, Tryz.underlying41, rfl⟩, ⟨Tryz.t41, by kernel_rfl, rfl, rfl, rfl⟩, nofun⟩, ?_⟩
 refine ⟨⟨Tryz.underlying44, ⟨Tryz.t44, by kernel_rfl, rfl, rfl, rfl⟩, nofun⟩, ?_⟩
 refine ⟨⟨Tryz.underlying45, ⟨Tryz.t45, by kernel_rfl, rfl, rfl, rfl⟩, nofun⟩, ?_⟩
 refine ⟨⟨⟨_, Tryz.underlying47, rfl⟩, ⟨Tryz.t47, by kernel_rfl, rfl, rfl, rfl⟩, nofun⟩, ?_⟩
 refine ⟨⟨Tryz.underlying48, ⟨Tryz.t48, by kernel_rfl, rfl, rfl, rfl⟩, nofun⟩, ?_⟩
 refine ⟨⟨⟨_, Tryz.underlying50, rfl⟩, ⟨Tryz.t50, by kernel_rfl, rfl, rfl, rfl⟩, nofun⟩, ?_⟩
 refine ⟨⟨⟨_, Tryz.underlying52, rfl⟩, ⟨Tryz.t52, by kernel_rfl, rfl, rfl, rfl⟩, nofun⟩, ?_⟩
 refine ⟨⟨⟨_, Tryz.underlying53, rfl⟩, ⟨Tryz.t53, by kernel_rfl, rfl, rfl, rfl⟩, fun ks h => by cases h; exact Yk⟩, ?_⟩
 refine ⟨⟨⟨_, Tryz.underlying54, rfl⟩, ⟨Tryz.t54, by kernel_rfl, rfl, rfl, rfl⟩, fun ks h => by cases h; exact Yl⟩, ?_⟩
 refine ⟨⟨⟨_, Tryz.underlying56, rfl⟩, ⟨Tryz.t56, by kernel_rfl, rfl, rfl, rfl⟩, fun ks h => by cases h; exact Ym⟩, ?_⟩
 refine ⟨⟨Tryz.underlying57, ⟨Tryz.t57, by kernel_rfl, rfl, rfl, rfl⟩, nofun⟩, ?_⟩
 refine ⟨⟨⟨_, Tryz.underlying59, rfl⟩, ⟨Tryz.t59, by kernel_rfl, rfl, rfl, rfl⟩, nofun⟩, ?_⟩
 refine ⟨⟨Tryz.underlying76, ⟨Tryz.t76, by kernel_rfl, rfl, rfl, rfl⟩, nofun⟩, ?_⟩
 refine ⟨⟨⟨_, Tryz.underlying78, rfl⟩, ⟨Tryz.t78, by kernel_rfl, rfl, rfl, rfl⟩, nofun⟩, ?_⟩
 refine ⟨⟨Tryz.underlying104, ⟨Tryz.t104, by kernel_rfl, rfl, rfl, rfl⟩, nofun⟩, ?_⟩
 refine ⟨⟨⟨_, Tryz.underlying106, rfl⟩, ⟨Tryz.t106, by kernel_rfl, rfl, rfl, rfl⟩, nofun⟩, ?_⟩
 refine ⟨⟨⟨_, Tryz.underlying115, rfl⟩, ⟨Tryz.t115, by kernel_rfl, rfl, rfl, rfl⟩, fun ks h => by cases h; exact WE⟩, ?_⟩
 refine ⟨⟨⟨_, Tryz.underlying127, trivial⟩, ⟨Tryz.t127, by kernel_rfl, rfl, rfl, rfl⟩, nofun⟩, ?_⟩
 refine ⟨⟨⟨_, Tryz.underlying140, rfl⟩, ⟨Tryz.t140, by kernel_rfl, rfl, rfl, rfl⟩, nofun⟩, ?_⟩
 refine ⟨⟨⟨_, Tryz.underlying149, rfl⟩, ⟨Tryz.t149, by kernel_rfl, rfl, rfl, rfl⟩, nofun⟩, ?_⟩
 refine ⟨⟨Tryz.underlying150, ⟨Tryz.t150, by kernel_rfl, rfl, rfl, rfl⟩, nofun⟩, ?_⟩
 refine ⟨⟨⟨_, Tryz.underlying152, rfl⟩, ⟨Tryz.t152, by kernel_rfl, rfl, rfl, rfl⟩, nofun⟩, ?_⟩
 refine ⟨⟨Tryz.underlying156, ⟨Tryz.t156, by kernel_rfl, rfl, rfl, rfl⟩, nofun⟩, ?_⟩
 refine ⟨⟨⟨_, Tryz.underlying162, trivial⟩, ⟨Tryz.t162, by kernel_rfl, rfl, rfl, rfl⟩, nofun⟩, ?_⟩
 refine ⟨⟨⟨_, Tryz.underlying163, trivial⟩, ⟨Tryz.t163, by kernel_rfl, rfl, rfl, rfl⟩, nofun⟩, ?_⟩
 refine ⟨⟨⟨_, Tryz.underlying165, rfl⟩, ⟨Tryz.t165, by kernel_rfl, rfl, rfl, rfl⟩, nofun⟩, ?_⟩
 refine ⟨⟨⟨_, Tryz.underlying176, rfl⟩, ⟨Tryz.t176, by kernel_rfl, rfl, rfl, rfl⟩, nofun⟩, ?_⟩
 refine ⟨⟨⟨_, Tryz.underlying179, rfl⟩, ⟨Tryz.t179, by kernel_rfl, rfl, rfl, rfl⟩, nofun⟩, ?_⟩
 refine ⟨⟨⟨_, Tryz.underlying182, rfl⟩, ⟨Tryz.t182, by kernel_rfl, rfl, rfl, rfl⟩, nofun⟩, ?_⟩
 refine ⟨⟨⟨_, Tryz.underlying184, rfl⟩, ⟨Tryz.t184, by kernel_rfl, rfl, rfl, rfl⟩, nofun⟩, ?_⟩
 refine ⟨⟨⟨_, Tryz.underlying185, rfl⟩, ⟨Tryz.t185, by kernel_rfl, rfl, rfl, rfl⟩, nofun⟩, ?_⟩
 refine ⟨⟨⟨_, Tryz.underlying186, rfl⟩, ⟨Tryz.t186, by kernel_rfl, rfl, rfl, rfl⟩, nofun⟩, ?_⟩
 refine ⟨⟨⟨_, Tryz.underlying191, rfl⟩, ⟨Tryz.t191, by kernel_rfl, rfl, rfl, rfl⟩, nofun⟩, ?_⟩
 refine ⟨⟨⟨_, Tryz.underlying205, trivial⟩, ⟨Tryz.t205, by kernel_rfl, rfl, rfl, rfl⟩, nofun⟩, ?_⟩
 refine ⟨⟨Tryz.underlying227, ⟨Tryz.t227, by kernel_rfl, rfl, rfl, rfl⟩, nofun⟩, ?_⟩
 refine ⟨⟨⟨_, Tryz.underlying228, trivial⟩, ⟨Tryz.t228, by kernel_rfl, rfl, rfl, rfl⟩, nofun⟩, ?_⟩
 refine ⟨⟨⟨_, Tryz.underlying230, rfl⟩, ⟨Tryz.t230, by kernel_rfl, rfl, rfl, rfl⟩, nofun⟩, ?_⟩
 refine ⟨⟨⟨_, Tryz.underlying234, trivial⟩, ⟨Tryz.t234, by kernel_rfl, rfl, rfl, rfl⟩, nofun⟩, ?_⟩
 refine ⟨⟨Tryz.underlying248, ⟨Tryz.t248, by kernel_rfl, rfl, rfl, rfl⟩, nofun⟩, ?_⟩
 refine ⟨⟨⟨_, Tryz.underlying250, rfl⟩, ⟨Tryz.t250, by kernel_rfl, rfl, rfl, rfl⟩, nofun⟩, ?_⟩
 exact nofun)
def ae (n : Int) : List C := [.v (.int .u8 n)]
theorem gL (n : Int) : ∀ c ∈ ae n, ∃ u, c = .v u := by simp [ae]
def aq (s : ByteArray) : List C := [sC s]
def ah (n : Int) : List C := [iC n]
structure Range where
 lo : ByteArray
 hi : ByteArray
instance : Inhabited Range := ⟨⟨⟨#[]⟩, ⟨#[]⟩⟩⟩
def DI (x : Range) : List C := [sC x.lo, sC x.hi]
structure Ask where
 kind : Int
 key : ByteArray
 val : ByteArray
 range : Range
 most : Int
 back : Bool
instance : Inhabited Ask := ⟨⟨0, ⟨#[]⟩, ⟨#[]⟩, default, 0, false⟩⟩
def XH (x : Ask) : List C := [iC x.kind, sC x.key, sC x.val, sC x.range.lo, sC x.range.hi, iC x.most, bC x.back]
structure bb where
 bytes : List Int
instance : Inhabited bb := ⟨⟨[]⟩⟩
def aj (x : bb) : List C := [lC 1 ae x.bytes]
structure bc where
 at_ : Int
 bytes : List Int
instance : Inhabited bc := ⟨⟨0, []⟩⟩
def ao (x : bc) : List C := [iC x.at_, lC 1 ae x.bytes]
structure bp where
 sheets : List bb
 dirty : List bc
instance : Inhabited bp := ⟨⟨[], []⟩⟩
def gZ (x : bp) : List C := [lC 1 aj x.sheets, lC 2 ao x.dirty]
structure az where
 key : ByteArray
 val : ByteArray
instance : Inhabited az := ⟨⟨⟨#[]⟩, ⟨#[]⟩⟩⟩
def af (x : az) : List C := [sC x.key, sC x.val]
structure Node where
 pairs : List az
 keys : List ByteArray
 kids : List Int
instance : Inhabited Node := ⟨⟨[], [], []⟩⟩
def aa (x : Node) : List C := [lC 2 af x.pairs, lC 1 aq x.keys, lC 1 ah x.kids]
structure Tree where
 nodes : List Node
instance : Inhabited Tree := ⟨⟨[]⟩⟩
def Uu (x : Tree) : List C := [lC 3 aa x.nodes]
structure cj where
 disk : bp
 gen : Int
 tree : Tree
 places : List Int
instance : Inhabited cj := ⟨⟨default, 0, default, []⟩⟩
def Rx (x : cj) : List C := [lC 1 aj x.disk.sheets, lC 2 ao x.disk.dirty, iC x.gen, lC 3 aa x.tree.nodes, lC 1 ah x.places]
structure Tx where
 c : Int
 e : Int
 n : Int
instance : Inhabited Tx := ⟨⟨0, 0, 0⟩⟩
def eTx (x : Tx) : List C := [iC x.c, iC x.e, iC x.n]
structure Msg where
 kind : Int
 tx : Tx
 shard : Int
 num : Int
 stamp : Int
 ask : Ask
 code : Int
 pairs : List az
 yes : Bool
instance : Inhabited Msg := ⟨⟨0, default, 0, 0, 0, default, 0, [], false⟩⟩
def cC (x : Msg) : List C := [iC x.kind, iC x.tx.c, iC x.tx.e, iC x.tx.n, iC x.shard, iC x.num, iC x.stamp, iC x.ask.kind, sC x.ask.key, sC x.ask.val, sC x.ask.range.lo, sC x.ask.range.hi, iC x.ask.most, bC x.ask.back, iC x.code, lC 2 af x.pairs, bC x.yes]
structure aQ where
 id : Int
 splits : List ByteArray
 store : cj
 epoch : Int
 num : Int
 phase : Int
 tx : Tx
 counts : List Int
 stamps : List Int
 pend : List Int
 ask : Ask
 got : List Msg
 age : Int
instance : Inhabited aQ := ⟨⟨0, [], default, 0, 0, 0, default, [], [], [], default, [], 0⟩⟩
def dP (x : aQ) : List C := [iC x.id, lC 1 aq x.splits, lC 1 aj x.store.disk.sheets, lC 2 ao x.store.disk.dirty, iC x.store.gen, lC 3 aa x.store.tree.nodes, lC 1 ah x.store.places, iC x.epoch, iC x.num, iC x.phase, iC x.tx.c, iC x.tx.e, iC x.tx.n, lC 1 ah x.counts, lC 1 ah x.stamps, lC 1 ah x.pend, iC x.ask.kind, sC x.ask.key, sC x.ask.val, sC x.ask.range.lo, sC x.ask.range.hi, iC x.ask.most, bC x.ask.back, lC 17 cC x.got, iC x.age]
structure aA where
 leaf : Bool
 pairs : List az
 kids : List R3
instance : Inhabited aA := ⟨⟨false, [], []⟩⟩
def fD (x : aA) : R3 := ⟨bC x.leaf, .fz (lC 2 af x.pairs), .fz (lC 3 eR3 x.kids)⟩
structure Meta where
 gen : Int
 root : Int
instance : Inhabited Meta := ⟨⟨0, 0⟩⟩
structure ch where
 keys : List ByteArray
 vals : List ByteArray
 kids : List Int
instance : Inhabited ch := ⟨⟨[], [], []⟩⟩
structure Reader where
 d : bp
 nodes : List Node
 places : List Int
 bad : Bool
instance : Inhabited Reader := ⟨⟨default, [], [], false⟩⟩
structure Scan where
 b : List Int
 at_ : Int
 bad : Bool
instance : Inhabited Scan := ⟨⟨[], 0, false⟩⟩
structure gi where
 pairs : List az
 kids : List R1
instance : Inhabited gi := ⟨⟨[], []⟩⟩
def cY (x : gi) : List C := [lC 2 af x.pairs, lC 1 eR1 x.kids]
def wQ (x : gi) : R1 := ⟨.fz (.bx [lC 2 af x.pairs, lC 1 eR1 x.kids])⟩
theorem NA (s : ByteArray) : ∀ c ∈ aq s, ∃ u, c = .v u := by simp [aq, sC]
theorem DE (n : Int) : ∀ c ∈ ah n, ∃ u, c = .v u := by simp [ah, iC]
def bS (x : aQ) : List C := [iC x.id, .fz (lC 1 aq x.splits), .fz (lC 1 aj x.store.disk.sheets), .fz (lC 2 ao x.store.disk.dirty), iC x.store.gen, .fz (lC 3 aa x.store.tree.nodes), .fz (lC 1 ah x.store.places), iC x.epoch, iC x.num, iC x.phase, iC x.tx.c, iC x.tx.e, iC x.tx.n, .fz (lC 1 ah x.counts), .fz (lC 1 ah x.stamps), .fz (lC 1 ah x.pend), iC x.ask.kind, sC x.ask.key, sC x.ask.val, sC x.ask.range.lo, sC x.ask.range.hi, iC x.ask.most, bC x.ask.back, .fz (lC 17 cC x.got), iC x.age]
abbrev zX (x : aQ) := [T1.c (iC x.id), .c (lC 1 aq x.splits), .c (lC 1 aj x.store.disk.sheets), .c (lC 2 ao x.store.disk.dirty), .c (iC x.store.gen), .c (lC 3 aa x.store.tree.nodes), .c (lC 1 ah x.store.places), .c (iC x.epoch), .c (iC x.num), .c (iC x.phase), .c (iC x.tx.c), .c (iC x.tx.e), .c (iC x.tx.n), .c (lC 1 ah x.counts), .c (lC 1 ah x.stamps), .c (lC 1 ah x.pend), .c (iC x.ask.kind), .c (sC x.ask.key), .c (sC x.ask.val), .c (sC x.ask.range.lo), .c (sC x.ask.range.hi), .c (iC x.ask.most), .c (bC x.ask.back), .c (lC 17 cC x.got), .c (iC x.age)]
def we (x : Msg) : List C := [iC x.kind, iC x.tx.c, iC x.tx.e, iC x.tx.n, iC x.shard, iC x.num, iC x.stamp, iC x.ask.kind, sC x.ask.key, sC x.ask.val, sC x.ask.range.lo, sC x.ask.range.hi, iC x.ask.most, bC x.ask.back, iC x.code, .fz (lC 2 af x.pairs), bC x.yes]
abbrev TW (x : Msg) := [T1.c (iC x.kind), .c (iC x.tx.c), .c (iC x.tx.e), .c (iC x.tx.n), .c (iC x.shard), .c (iC x.num), .c (iC x.stamp), .c (iC x.ask.kind), .c (sC x.ask.key), .c (sC x.ask.val), .c (sC x.ask.range.lo), .c (sC x.ask.range.hi), .c (iC x.ask.most), .c (bC x.ask.back), .c (iC x.code), .c (lC 2 af x.pairs), .c (bC x.yes)]
abbrev VD (x : Ask) := [T1.c (iC x.kind), .c (sC x.key), .c (sC x.val), .c (sC x.range.lo), .c (sC x.range.hi), .c (iC x.most), .c (bC x.back)]
abbrev DA (x : cj) := [T1.c (lC 1 aj x.disk.sheets), .c (lC 2 ao x.disk.dirty), .c (iC x.gen), .c (lC 3 aa x.tree.nodes), .c (lC 1 ah x.places)]
abbrev aTx (x : Tx) := [T1.c (iC x.c), .c (iC x.e), .c (iC x.n)]
def iM (x : Node) : List C := [.fz (lC 2 af x.pairs), .fz (lC 1 aq x.keys), .fz (lC 1 ah x.kids)]
abbrev HV (x : Node) := [T1.c (lC 2 af x.pairs), .c (lC 1 aq x.keys), .c (lC 1 ah x.kids)]
abbrev Nu (x : bc) := [T1.c (iC x.at_), .c (lC 1 ae x.bytes)]
abbrev sy (x : Range) := [T1.c (sC x.lo), .c (sC x.hi)]
abbrev EW (x : az) := [T1.c (sC x.key), .c (sC x.val)]
def dN (x : bp) : List C := [.fz (lC 1 aj x.sheets), .fz (lC 2 ao x.dirty)]
abbrev sg (x : bp) := [T1.c (lC 1 aj x.sheets), .c (lC 2 ao x.dirty)]
abbrev Wk := W Tryz.prog Ty
open Go.Shelf
def KM : Go.Shelf.Ren := ⟨fun | 221 => 163 | 268 => 191 | 138 => 192 | 143 => 193 | 195 => 214 | 197 => 215 | 218 => 216 | 219 => 162 | 260 => 220 | 217 => 187 | 225 => 188 | 224 => 189 | 267 => 190 | 266 => 212 | 314 => 213 | n => n, fun | 9 => 9 | 3 => 3 | 31 => 22 | 4 => 4 | 0 => 0 | 105 => 255 | 21 => 21 | 5 => 5 | 46 => 227 | 119 => 257 | 139 => 260 | 138 => 259 | 146 => 252 | 51 => 251 | n => n, fun | 1 => 0 | 3 => 1 | 4 => 2 | n => n⟩
theorem Vz : Go.Proofs.Lays.n221 Tryz.prog KM := {
 mixed := by kernel_rfl
 f138 := Tryz.func192.trans (congrArg some (by kernel_rfl))
 f143 := Tryz.func193.trans (congrArg some (by kernel_rfl))
 f195 := Tryz.func214.trans (congrArg some (by kernel_rfl))
 f197 := Tryz.func215.trans (congrArg some (by kernel_rfl))
 f217 := Tryz.func187.trans (congrArg some (by kernel_rfl))
 f218 := Tryz.func216.trans (congrArg some (by kernel_rfl))
 f219 := Tryz.func162.trans (congrArg some (by kernel_rfl))
 f221 := Tryz.func163.trans (congrArg some (by kernel_rfl))
 f224 := Tryz.func189.trans (congrArg some (by kernel_rfl))
 f225 := Tryz.func188.trans (congrArg some (by kernel_rfl))
 f260 := Tryz.func220.trans (congrArg some (by kernel_rfl))
 f266 := Tryz.func212.trans (congrArg some (by kernel_rfl))
 f267 := Tryz.func190.trans (congrArg some (by kernel_rfl))
 f268 := Tryz.func191.trans (congrArg some (by kernel_rfl))
 f314 := Tryz.func213.trans (congrArg some (by kernel_rfl))
 t0 := Tryz.underlying0
 a0 := Tryz.isAgg0
 z0 := Tryz.sizeOf0
 v0 := Tryz.zeroValue0
 t3 := Tryz.underlying3
 a3 := Tryz.isAgg3
 z3 := Tryz.sizeOf3
 v3 := Tryz.zeroValue3
 t4 := Tryz.underlying4
 a4 := Tryz.isAgg4
 z4 := Tryz.sizeOf4
 v4 := Tryz.zeroValue4
 t5 := Tryz.underlying5
 a5 := Tryz.isAgg5
 z5 := Tryz.sizeOf5
 v5 := Tryz.zeroValue5
 t9 := Tryz.underlying9
 a9 := Tryz.isAgg9
 z9 := Tryz.sizeOf9
 v9 := Tryz.zeroValue9
 t21 := Tryz.underlying21
 a21 := Tryz.isAgg21
 z21 := Tryz.sizeOf21
 v21 := Tryz.zeroValue21
 t31 := Tryz.underlying22
 a31 := Tryz.isAgg22
 z31 := Tryz.sizeOf22
 v31 := Tryz.zeroValue22
 t46 := Tryz.underlying227
 a46 := Tryz.isAgg227
 z46 := Tryz.sizeOf227
 v46 := Tryz.zeroValue227
 t51 := Tryz.underlying251
 a51 := Tryz.isAgg251
 z51 := Tryz.sizeOf251
 v51 := Tryz.zeroValue251
 t105 := Tryz.underlying255
 a105 := Tryz.isAgg255
 z105 := Tryz.sizeOf255
 v105 := Tryz.zeroValue255
 t119 := Tryz.underlying257
 a119 := Tryz.isAgg257
 z119 := Tryz.sizeOf257
 t138 := Tryz.underlying259
 a138 := Tryz.isAgg259
 z138 := Tryz.sizeOf259
 v138 := Tryz.zeroValue259
 t139 := Tryz.underlying260
 a139 := Tryz.isAgg260
 z139 := Tryz.sizeOf260
 v139 := Tryz.zeroValue260
 t146 := Tryz.underlying252
 a146 := Tryz.isAgg252
 z146 := Tryz.sizeOf252
 v146 := Tryz.zeroValue252
 g1 := by kernel_rfl
 g3 := by kernel_rfl
 g4 := by kernel_rfl }
open Go.RowKit Go.Lib in
def tu (p0 p1 : ByteArray) (p2 p3 : Int) : Option (List ByteArray) := OL p0 p1 p2 p3
theorem Ge (p0 p1 : ByteArray) (p2 p3 : Int) (v : List ByteArray) (h : tu p0 p1 p2 p3 = some v) : ab Tryz.prog 163 [sV p0, sV p1, iV p2, iV p3] (.one (.c (.sl 1 (v.map aq)))) [] :=
 QD Vz (by kernel_rfl) p0 p1 p2 p3 v h
def KL : Go.Shelf.Ren := ⟨fun | 219 => 162 | 217 => 187 | 225 => 188 | 224 => 189 | 267 => 190 | 266 => 212 | 314 => 213 | n => n, fun | 9 => 9 | 3 => 3 | 4 => 4 | 5 => 5 | 46 => 227 | 146 => 252 | 51 => 251 | n => n, fun | 1 => 0 | n => n⟩
theorem Vy : Go.Proofs.Lays.n219 Tryz.prog KL := {
 mixed := by kernel_rfl
 f217 := Tryz.func187.trans (congrArg some (by kernel_rfl))
 f219 := Tryz.func162.trans (congrArg some (by kernel_rfl))
 f224 := Tryz.func189.trans (congrArg some (by kernel_rfl))
 f225 := Tryz.func188.trans (congrArg some (by kernel_rfl))
 f266 := Tryz.func212.trans (congrArg some (by kernel_rfl))
 f267 := Tryz.func190.trans (congrArg some (by kernel_rfl))
 f314 := Tryz.func213.trans (congrArg some (by kernel_rfl))
 t3 := Tryz.underlying3
 a3 := Tryz.isAgg3
 z3 := Tryz.sizeOf3
 v3 := Tryz.zeroValue3
 t4 := Tryz.underlying4
 a4 := Tryz.isAgg4
 z4 := Tryz.sizeOf4
 v4 := Tryz.zeroValue4
 t5 := Tryz.underlying5
 a5 := Tryz.isAgg5
 z5 := Tryz.sizeOf5
 v5 := Tryz.zeroValue5
 t9 := Tryz.underlying9
 a9 := Tryz.isAgg9
 z9 := Tryz.sizeOf9
 v9 := Tryz.zeroValue9
 t46 := Tryz.underlying227
 a46 := Tryz.isAgg227
 z46 := Tryz.sizeOf227
 v46 := Tryz.zeroValue227
 t51 := Tryz.underlying251
 a51 := Tryz.isAgg251
 z51 := Tryz.sizeOf251
 v51 := Tryz.zeroValue251
 t146 := Tryz.underlying252
 a146 := Tryz.isAgg252
 z146 := Tryz.sizeOf252
 v146 := Tryz.zeroValue252
 g1 := by kernel_rfl }
open Go.RowKit Go.Lib in
def bY (p0 p1 : ByteArray) : Option Int := IV p0 p1
theorem jZ (p0 p1 : ByteArray) (v : Int) (h : bY p0 p1 = some v) : ab Tryz.prog 162 [sV p0, sV p1] (iV v) [] :=
 PH Vy p0 p1 v h
structure eU where
 v1 : Int
 v5 : Int
def su (p0 : (List ByteArray)) (s1 : eU) : Wk (eU ⊕ (Int ⊕ (Int))) :=
 .p 4 <|.ite (decide (s1.v5 < ((p0.map aq).length : Int)))
 (.eb <|.p 3 <|.bnd (aB p0 s1.v5) fun x1 ex1 =>
 .s (.idx aq ex1) <|.p 6 <|.ite (decide ((IntKind.wrap .i64 (s1.v1 - ((x1.size : Int)))) < 0))
 (.p 1 <|.ret (.inr (.inr (-1))))
 (.p 3 <|.ret (.inl ((⟨IntKind.wrap .i64 (s1.v1 - ((x1.size : Int))), IntKind.wrap .i64 (s1.v5 + 1)⟩ : eU)))))
 (.ret (.inr (.inl s1.v1)))
def qX (p0 : (List ByteArray)) (p1 : Int) : Wk (Int) :=
 .p 8 <|.ite (decide ((IntKind.wrap .i64 (p1 - ((p0.map aq).length : Int))) < 0))
 (.p 1 <|.ret (-1))
 (.p 1 <|.join true (ι := Int) (fun j => ms 28 [(1, iV j)] [])
 (.eb <|.loop (σ := eU) (fun s1 => ms 28 [(0, lV 1 aq p0), (1, iV s1.v1), (5, iV s1.v5)] []) ((⟨IntKind.wrap .i64 (p1 - ((p0.map aq).length : Int)), 0⟩ : eU)) (su p0)) fun j1 =>
 .p 2 <|.ret j1)
def lr (p0 : (List ByteArray)) (p1 : Int) : Option (Int) := (qX p0 p1).den
theorem uU (p0 : (List ByteArray)) (p1 : Int) (v : Int) (h : lr p0 p1 = some v) : ab Tryz.prog 9 [lV 1 aq p0, iV p1] (iV v) [] :=
 (qX p0 p1).call aG Tryz.func9 rfl (res := (fun v => iV v)) (row := fun v => []) (by kernel_rfl) h
def xN (p0 : (List Int)) (p1 : Int) : Wk (Int) :=
 .p 8 <|.ite (decide ((IntKind.wrap .i64 (p1 - ((p0.map ae).length : Int))) < 0))
 (.p 1 <|.ret (-1))
 (.p 2 <|.ret (IntKind.wrap .i64 (p1 - ((p0.map ae).length : Int))))
def qG (p0 : (List Int)) (p1 : Int) : Option (Int) := (xN p0 p1).den
theorem Bj (p0 : (List Int)) (p1 : Int) (v : Int) (h : qG p0 p1 = some v) : ab Tryz.prog 168 [lV 1 ae p0, iV p1] (iV v) [] :=
 (xN p0 p1).call aG Tryz.func168 rfl (res := (fun v => iV v)) (row := fun v => []) (by kernel_rfl) h
def xS (p0 : bb) (p1 : Int) : Wk (Int) :=
 .p 5 <|.bnd (qG p0.bytes p1) fun r1 er1 =>
 .s (.call (Bj p0.bytes p1 r1 er1) Tryz.call168) <|.p 3 <|.ite (decide (r1 < 0))
 (.p 1 <|.ret (-1))
 (.p 2 <|.ret r1)
def vT (p0 : bb) (p1 : Int) : Option (Int) := (xS p0 p1).den
theorem Ml (p0 : bb) (p1 : Int) (v : Int) (h : vT p0 p1 = some v) : ab Tryz.prog 136 [.agg [.c (lC 1 ae p0.bytes)], iV p1] (iV v) [] :=
 (xS p0 p1).call aG Tryz.func136 rfl (res := (fun v => iV v)) (row := fun v => []) (by kernel_rfl) h
structure gH where
 v1 : Int
 v5 : Int
def tY (p0 : (List bb)) (s1 : gH) : Wk (gH ⊕ (Int ⊕ (Int))) :=
 .p 4 <|.ite (decide (s1.v5 < ((p0.map aj).length : Int)))
 (.eb <|.p 2 <|.bnd (aB p0 s1.v5) fun x1 ex1 =>
 .s (.idx aj ex1) <|.p 2 <|.bnd (vT x1 s1.v1) fun r1 er1 =>
 .s (.call (Ml x1 s1.v1 r1 er1) Tryz.call136) <|.p 3 <|.ite (decide (r1 < 0))
 (.p 1 <|.ret (.inr (.inr (-1))))
 (.p 3 <|.ret (.inl ((⟨r1, IntKind.wrap .i64 (s1.v5 + 1)⟩ : gH)))))
 (.ret (.inr (.inl s1.v1)))
def tS (p0 : (List bb)) (p1 : Int) : Wk (Int) :=
 .p 8 <|.ite (decide ((IntKind.wrap .i64 (p1 - ((p0.map aj).length : Int))) < 0))
 (.p 1 <|.ret (-1))
 (.p 1 <|.join true (ι := Int) (fun j => ms 27 [(1, iV j)] [])
 (.eb <|.loop (σ := gH) (fun s1 => ms 27 [(0, lV 1 aj p0), (1, iV s1.v1), (5, iV s1.v5)] []) ((⟨IntKind.wrap .i64 (p1 - ((p0.map aj).length : Int)), 0⟩ : gH)) (tY p0)) fun j1 =>
 .p 2 <|.ret j1)
def rV (p0 : (List bb)) (p1 : Int) : Option (Int) := (tS p0 p1).den
theorem JB (p0 : (List bb)) (p1 : Int) (v : Int) (h : rV p0 p1 = some v) : ab Tryz.prog 92 [lV 1 aj p0, iV p1] (iV v) [] :=
 (tS p0 p1).call aG Tryz.func92 rfl (res := (fun v => iV v)) (row := fun v => []) (by kernel_rfl) h
def xU (p0 : bc) (p1 : Int) : Wk (Int) :=
 .p 5 <|.bnd (qG p0.bytes p1) fun r1 er1 =>
 .s (.call (Bj p0.bytes p1 r1 er1) Tryz.call168) <|.p 3 <|.ite (decide (r1 < 0))
 (.p 1 <|.ret (-1))
 (.p 2 <|.ret r1)
def vV (p0 : bc) (p1 : Int) : Option (Int) := (xU p0 p1).den
theorem Mn (p0 : bc) (p1 : Int) (v : Int) (h : vV p0 p1 = some v) : ab Tryz.prog 137 [.agg (Nu p0), iV p1] (iV v) [] :=
 (xU p0 p1).call aG Tryz.func137 rfl (res := (fun v => iV v)) (row := fun v => []) (by kernel_rfl) h
structure gI where
 v1 : Int
 v5 : Int
def tZ (p0 : (List bc)) (s1 : gI) : Wk (gI ⊕ (Int ⊕ (Int))) :=
 .p 4 <|.ite (decide (s1.v5 < ((p0.map ao).length : Int)))
 (.eb <|.p 2 <|.bnd (aB p0 s1.v5) fun x1 ex1 =>
 .s (.idx ao ex1) <|.p 2 <|.bnd (vV x1 s1.v1) fun r1 er1 =>
 .s (.call (Mn x1 s1.v1 r1 er1) Tryz.call137) <|.p 3 <|.ite (decide (r1 < 0))
 (.p 1 <|.ret (.inr (.inr (-1))))
 (.p 3 <|.ret (.inl ((⟨r1, IntKind.wrap .i64 (s1.v5 + 1)⟩ : gI)))))
 (.ret (.inr (.inl s1.v1)))
def tT (p0 : (List bc)) (p1 : Int) : Wk (Int) :=
 .p 8 <|.ite (decide ((IntKind.wrap .i64 (p1 - ((p0.map ao).length : Int))) < 0))
 (.p 1 <|.ret (-1))
 (.p 1 <|.join true (ι := Int) (fun j => ms 27 [(1, iV j)] [])
 (.eb <|.loop (σ := gI) (fun s1 => ms 27 [(0, lV 2 ao p0), (1, iV s1.v1), (5, iV s1.v5)] []) ((⟨IntKind.wrap .i64 (p1 - ((p0.map ao).length : Int)), 0⟩ : gI)) (tZ p0)) fun j1 =>
 .p 2 <|.ret j1)
def rW (p0 : (List bc)) (p1 : Int) : Option (Int) := (tT p0 p1).den
theorem JC (p0 : (List bc)) (p1 : Int) (v : Int) (h : rW p0 p1 = some v) : ab Tryz.prog 93 [lV 2 ao p0, iV p1] (iV v) [] :=
 (tT p0 p1).call aG Tryz.func93 rfl (res := (fun v => iV v)) (row := fun v => []) (by kernel_rfl) h
def CT (p0 : bp) (p1 : Int) : Wk (Int) :=
 .p 5 <|.bnd (rV p0.sheets p1) fun r1 er1 =>
 .s (.call (JB p0.sheets p1 r1 er1) Tryz.call92) <|.p 3 <|.ite (decide (r1 < 0))
 (.p 1 <|.ret (-1))
 (.p 3 <|.bnd (rW p0.dirty r1) fun r2 er2 =>
 .s (.call (JC p0.dirty r1 r2 er2) Tryz.call93) <|.p 3 <|.ite (decide (r2 < 0))
 (.p 1 <|.ret (-1))
 (.p 2 <|.ret r2))
def zD (p0 : bp) (p1 : Int) : Option (Int) := (CT p0 p1).den
theorem PZ (p0 : bp) (p1 : Int) (v : Int) (h : zD p0 p1 = some v) : ab Tryz.prog 51 [.agg (sg p0), iV p1] (iV v) [] :=
 (CT p0 p1).call aG Tryz.func51 rfl (res := (fun v => iV v)) (row := fun v => []) (by kernel_rfl) h
def CX (p0 : az) (p1 : Int) : Wk (Int) :=
 .p 10 <|.ite (decide ((IntKind.wrap .i64 (p1 - ((p0.key.size : Int)))) < 0))
 (.p 1 <|.ret (-1))
 (.p 8 <|.ite (decide ((IntKind.wrap .i64 ((IntKind.wrap .i64 (p1 - ((p0.key.size : Int)))) - ((p0.val.size : Int)))) < 0))
 (.p 1 <|.ret (-1))
 (.p 2 <|.ret (IntKind.wrap .i64 ((IntKind.wrap .i64 (p1 - ((p0.key.size : Int)))) - ((p0.val.size : Int))))))
def zG (p0 : az) (p1 : Int) : Option (Int) := (CX p0 p1).den
theorem Qc (p0 : az) (p1 : Int) (v : Int) (h : zG p0 p1 = some v) : ab Tryz.prog 139 [.agg (EW p0), iV p1] (iV v) [] :=
 (CX p0 p1).call aG Tryz.func139 rfl (res := (fun v => iV v)) (row := fun v => []) (by kernel_rfl) h
structure ji where
 v1 : Int
 v5 : Int
def ye (p0 : (List az)) (s1 : ji) : Wk (ji ⊕ (Int ⊕ (Int))) :=
 .p 4 <|.ite (decide (s1.v5 < ((p0.map af).length : Int)))
 (.eb <|.p 2 <|.bnd (aB p0 s1.v5) fun x1 ex1 =>
 .s (.idx af ex1) <|.p 2 <|.bnd (zG x1 s1.v1) fun r1 er1 =>
 .s (.call (Qc x1 s1.v1 r1 er1) Tryz.call139) <|.p 3 <|.ite (decide (r1 < 0))
 (.p 1 <|.ret (.inr (.inr (-1))))
 (.p 3 <|.ret (.inl ((⟨r1, IntKind.wrap .i64 (s1.v5 + 1)⟩ : ji)))))
 (.ret (.inr (.inl s1.v1)))
def xQ (p0 : (List az)) (p1 : Int) : Wk (Int) :=
 .p 8 <|.ite (decide ((IntKind.wrap .i64 (p1 - ((p0.map af).length : Int))) < 0))
 (.p 1 <|.ret (-1))
 (.p 1 <|.join true (ι := Int) (fun j => ms 27 [(1, iV j)] [])
 (.eb <|.loop (σ := ji) (fun s1 => ms 27 [(0, lV 2 af p0), (1, iV s1.v1), (5, iV s1.v5)] []) ((⟨IntKind.wrap .i64 (p1 - ((p0.map af).length : Int)), 0⟩ : ji)) (ye p0)) fun j1 =>
 .p 2 <|.ret j1)
def qH (p0 : (List az)) (p1 : Int) : Option (Int) := (xQ p0 p1).den
theorem Bk (p0 : (List az)) (p1 : Int) (v : Int) (h : qH p0 p1 = some v) : ab Tryz.prog 95 [lV 2 af p0, iV p1] (iV v) [] :=
 (xQ p0 p1).call aG Tryz.func95 rfl (res := (fun v => iV v)) (row := fun v => []) (by kernel_rfl) h
def CU (p0 : (List Int)) (p1 : Int) : Wk (Int) :=
 .p 8 <|.ite (decide ((IntKind.wrap .i64 (p1 - ((p0.map ah).length : Int))) < 0))
 (.p 1 <|.ret (-1))
 (.p 2 <|.ret (IntKind.wrap .i64 (p1 - ((p0.map ah).length : Int))))
def mn (p0 : (List Int)) (p1 : Int) : Option (Int) := (CU p0 p1).den
theorem mZ (p0 : (List Int)) (p1 : Int) (v : Int) (h : mn p0 p1 = some v) : ab Tryz.prog 11 [lV 1 ah p0, iV p1] (iV v) [] :=
 (CU p0 p1).call aG Tryz.func11 rfl (res := (fun v => iV v)) (row := fun v => []) (by kernel_rfl) h
def CW (p0 : Node) (p1 : Int) : Wk (Int) :=
 .p 5 <|.bnd (qH p0.pairs p1) fun r1 er1 =>
 .s (.call (Bk p0.pairs p1 r1 er1) Tryz.call95) <|.p 3 <|.ite (decide (r1 < 0))
 (.p 1 <|.ret (-1))
 (.p 3 <|.bnd (lr p0.keys r1) fun r2 er2 =>
 .s (.call (uU p0.keys r1 r2 er2) Tryz.call9) <|.p 3 <|.ite (decide (r2 < 0))
 (.p 1 <|.ret (-1))
 (.p 3 <|.bnd (mn p0.kids r2) fun r3 er3 =>
 .s (.call (mZ p0.kids r2 r3 er3) Tryz.call11) <|.p 3 <|.ite (decide (r3 < 0))
 (.p 1 <|.ret (-1))
 (.p 2 <|.ret r3)))
def zF (p0 : Node) (p1 : Int) : Option (Int) := (CW p0 p1).den
theorem Qb (p0 : Node) (p1 : Int) (v : Int) (h : zF p0 p1 = some v) : ab Tryz.prog 138 [.agg (HV p0), iV p1] (iV v) [] :=
 (CW p0 p1).call aG Tryz.func138 rfl (res := (fun v => iV v)) (row := fun v => []) (by kernel_rfl) h
structure jh where
 v1 : Int
 v5 : Int
def yd (p0 : (List Node)) (s1 : jh) : Wk (jh ⊕ (Int ⊕ (Int))) :=
 .p 4 <|.ite (decide (s1.v5 < ((p0.map aa).length : Int)))
 (.eb <|.p 2 <|.bnd (aB p0 s1.v5) fun x1 ex1 =>
 .s (.idx aa ex1) <|.p 2 <|.bnd (zF x1 s1.v1) fun r1 er1 =>
 .s (.call (Qb x1 s1.v1 r1 er1) Tryz.call138) <|.p 3 <|.ite (decide (r1 < 0))
 (.p 1 <|.ret (.inr (.inr (-1))))
 (.p 3 <|.ret (.inl ((⟨r1, IntKind.wrap .i64 (s1.v5 + 1)⟩ : jh)))))
 (.ret (.inr (.inl s1.v1)))
def xP (p0 : (List Node)) (p1 : Int) : Wk (Int) :=
 .p 8 <|.ite (decide ((IntKind.wrap .i64 (p1 - ((p0.map aa).length : Int))) < 0))
 (.p 1 <|.ret (-1))
 (.p 1 <|.join true (ι := Int) (fun j => ms 27 [(1, iV j)] [])
 (.eb <|.loop (σ := jh) (fun s1 => ms 27 [(0, lV 3 aa p0), (1, iV s1.v1), (5, iV s1.v5)] []) ((⟨IntKind.wrap .i64 (p1 - ((p0.map aa).length : Int)), 0⟩ : jh)) (yd p0)) fun j1 =>
 .p 2 <|.ret j1)
def vR (p0 : (List Node)) (p1 : Int) : Option (Int) := (xP p0 p1).den
theorem Mj (p0 : (List Node)) (p1 : Int) (v : Int) (h : vR p0 p1 = some v) : ab Tryz.prog 94 [lV 3 aa p0, iV p1] (iV v) [] :=
 (xP p0 p1).call aG Tryz.func94 rfl (res := (fun v => iV v)) (row := fun v => []) (by kernel_rfl) h
def CY (p0 : Tree) (p1 : Int) : Wk (Int) :=
 .p 5 <|.bnd (vR p0.nodes p1) fun r1 er1 =>
 .s (.call (Mj p0.nodes p1 r1 er1) Tryz.call94) <|.p 3 <|.ite (decide (r1 < 0))
 (.p 1 <|.ret (-1))
 (.p 2 <|.ret r1)
def zH (p0 : Tree) (p1 : Int) : Option (Int) := (CY p0 p1).den
theorem Qd (p0 : Tree) (p1 : Int) (v : Int) (h : zH p0 p1 = some v) : ab Tryz.prog 52 [.agg [.c (lC 3 aa p0.nodes)], iV p1] (iV v) [] :=
 (CY p0 p1).call aG Tryz.func52 rfl (res := (fun v => iV v)) (row := fun v => []) (by kernel_rfl) h
def xT (p0 : cj) (p1 : Int) : Wk (Int) :=
 .p 5 <|.bnd (zD p0.disk p1) fun r1 er1 =>
 .s (.call (PZ p0.disk p1 r1 er1) Tryz.call51) <|.p 3 <|.ite (decide (r1 < 0))
 (.p 1 <|.ret (-1))
 (.p 3 <|.bnd (zH p0.tree r1) fun r2 er2 =>
 .s (.call (Qd p0.tree r1 r2 er2) Tryz.call52) <|.p 3 <|.ite (decide (r2 < 0))
 (.p 1 <|.ret (-1))
 (.p 3 <|.bnd (mn p0.places r2) fun r3 er3 =>
 .s (.call (mZ p0.places r2 r3 er3) Tryz.call11) <|.p 3 <|.ite (decide (r3 < 0))
 (.p 1 <|.ret (-1))
 (.p 2 <|.ret r3)))
def vU (p0 : cj) (p1 : Int) : Option (Int) := (xT p0 p1).den
theorem Mm (p0 : cj) (p1 : Int) (v : Int) (h : vU p0 p1 = some v) : ab Tryz.prog 10 [.agg (DA p0), iV p1] (iV v) [] :=
 (xT p0 p1).call aG Tryz.func10 rfl (res := (fun v => iV v)) (row := fun v => []) (by kernel_rfl) h
def xR (p0 : Range) (p1 : Int) : Wk (Int) :=
 .p 10 <|.ite (decide ((IntKind.wrap .i64 (p1 - ((p0.lo.size : Int)))) < 0))
 (.p 1 <|.ret (-1))
 (.p 8 <|.ite (decide ((IntKind.wrap .i64 ((IntKind.wrap .i64 (p1 - ((p0.lo.size : Int)))) - ((p0.hi.size : Int)))) < 0))
 (.p 1 <|.ret (-1))
 (.p 2 <|.ret (IntKind.wrap .i64 ((IntKind.wrap .i64 (p1 - ((p0.lo.size : Int)))) - ((p0.hi.size : Int))))))
def vS (p0 : Range) (p1 : Int) : Option (Int) := (xR p0 p1).den
theorem Mk (p0 : Range) (p1 : Int) (v : Int) (h : vS p0 p1 = some v) : ab Tryz.prog 53 [.agg (sy p0), iV p1] (iV v) [] :=
 (xR p0 p1).call aG Tryz.func53 rfl (res := (fun v => iV v)) (row := fun v => []) (by kernel_rfl) h
def HL (p0 : Ask) (p1 : Int) : Wk (Int) :=
 .p 10 <|.ite (decide ((IntKind.wrap .i64 (p1 - ((p0.key.size : Int)))) < 0))
 (.p 1 <|.ret (-1))
 (.p 8 <|.ite (decide ((IntKind.wrap .i64 ((IntKind.wrap .i64 (p1 - ((p0.key.size : Int)))) - ((p0.val.size : Int)))) < 0))
 (.p 1 <|.ret (-1))
 (.p 3 <|.bnd (vS p0.range (IntKind.wrap .i64 ((IntKind.wrap .i64 (p1 - ((p0.key.size : Int)))) - ((p0.val.size : Int))))) fun r1 er1 =>
 .s (.call (Mk p0.range (IntKind.wrap .i64 ((IntKind.wrap .i64 (p1 - ((p0.key.size : Int)))) - ((p0.val.size : Int)))) r1 er1) Tryz.call53) <|.p 3 <|.ite (decide (r1 < 0))
 (.p 1 <|.ret (-1))
 (.p 2 <|.ret r1)))
def Cn (p0 : Ask) (p1 : Int) : Option (Int) := (HL p0 p1).den
theorem JA (p0 : Ask) (p1 : Int) (v : Int) (h : Cn p0 p1 = some v) : ab Tryz.prog 12 [.agg (VD p0), iV p1] (iV v) [] :=
 (HL p0 p1).call aG Tryz.func12 rfl (res := (fun v => iV v)) (row := fun v => []) (by kernel_rfl) h
def HM (p0 : Msg) (p1 : Int) : Wk (Int) :=
 .p 5 <|.bnd (Cn p0.ask p1) fun r1 er1 =>
 .s (.call (JA p0.ask p1 r1 er1) Tryz.call12) <|.p 3 <|.ite (decide (r1 < 0))
 (.p 1 <|.ret (-1))
 (.p 3 <|.bnd (qH p0.pairs r1) fun r2 er2 =>
 .s (.call (Bk p0.pairs r1 r2 er2) Tryz.call95) <|.p 3 <|.ite (decide (r2 < 0))
 (.p 1 <|.ret (-1))
 (.p 2 <|.ret r2))
def Hu (p0 : Msg) (p1 : Int) : Option (Int) := (HM p0 p1).den
theorem Ss (p0 : Msg) (p1 : Int) (v : Int) (h : Hu p0 p1 = some v) : ab Tryz.prog 54 [.agg (TW p0), iV p1] (iV v) [] :=
 (HM p0 p1).call aG Tryz.func54 rfl (res := (fun v => iV v)) (row := fun v => []) (by kernel_rfl) h
structure kG where
 v1 : Int
 v5 : Int
def zO (p0 : (List Msg)) (s1 : kG) : Wk (kG ⊕ (Int ⊕ (Int))) :=
 .p 4 <|.ite (decide (s1.v5 < ((p0.map cC).length : Int)))
 (.eb <|.p 2 <|.bnd (aB p0 s1.v5) fun x1 ex1 =>
 .s (.idx cC ex1) <|.p 2 <|.bnd (Hu x1 s1.v1) fun r1 er1 =>
 .s (.call (Ss x1 s1.v1 r1 er1) Tryz.call54) <|.p 3 <|.ite (decide (r1 < 0))
 (.p 1 <|.ret (.inr (.inr (-1))))
 (.p 3 <|.ret (.inl ((⟨r1, IntKind.wrap .i64 (s1.v5 + 1)⟩ : kG)))))
 (.ret (.inr (.inl s1.v1)))
def CV (p0 : (List Msg)) (p1 : Int) : Wk (Int) :=
 .p 8 <|.ite (decide ((IntKind.wrap .i64 (p1 - ((p0.map cC).length : Int))) < 0))
 (.p 1 <|.ret (-1))
 (.p 1 <|.join true (ι := Int) (fun j => ms 27 [(1, iV j)] [])
 (.eb <|.loop (σ := kG) (fun s1 => ms 27 [(0, lV 17 cC p0), (1, iV s1.v1), (5, iV s1.v5)] []) ((⟨IntKind.wrap .i64 (p1 - ((p0.map cC).length : Int)), 0⟩ : kG)) (zO p0)) fun j1 =>
 .p 2 <|.ret j1)
def zE (p0 : (List Msg)) (p1 : Int) : Option (Int) := (CV p0 p1).den
theorem Qa (p0 : (List Msg)) (p1 : Int) (v : Int) (h : zE p0 p1 = some v) : ab Tryz.prog 13 [lV 17 cC p0, iV p1] (iV v) [] :=
 (CV p0 p1).call aG Tryz.func13 rfl (res := (fun v => iV v)) (row := fun v => []) (by kernel_rfl) h
def xO (p0 : aQ) (p1 : Int) : Wk (Int) :=
 .p 5 <|.bnd (lr p0.splits p1) fun r1 er1 =>
 .s (.call (uU p0.splits p1 r1 er1) Tryz.call9) <|.p 3 <|.ite (decide (r1 < 0))
 (.p 1 <|.ret (-1))
 (.p 3 <|.bnd (vU p0.store r1) fun r2 er2 =>
 .s (.call (Mm p0.store r1 r2 er2) Tryz.call10) <|.p 3 <|.ite (decide (r2 < 0))
 (.p 1 <|.ret (-1))
 (.p 3 <|.bnd (mn p0.counts r2) fun r3 er3 =>
 .s (.call (mZ p0.counts r2 r3 er3) Tryz.call11) <|.p 3 <|.ite (decide (r3 < 0))
 (.p 1 <|.ret (-1))
 (.p 3 <|.bnd (mn p0.stamps r3) fun r4 er4 =>
 .s (.call (mZ p0.stamps r3 r4 er4) Tryz.call11) <|.p 3 <|.ite (decide (r4 < 0))
 (.p 1 <|.ret (-1))
 (.p 3 <|.bnd (mn p0.pend r4) fun r5 er5 =>
 .s (.call (mZ p0.pend r4 r5 er5) Tryz.call11) <|.p 3 <|.ite (decide (r5 < 0))
 (.p 1 <|.ret (-1))
 (.p 3 <|.bnd (Cn p0.ask r5) fun r6 er6 =>
 .s (.call (JA p0.ask r5 r6 er6) Tryz.call12) <|.p 3 <|.ite (decide (r6 < 0))
 (.p 1 <|.ret (-1))
 (.p 3 <|.bnd (zE p0.got r6) fun r7 er7 =>
 .s (.call (Qa p0.got r6 r7 er7) Tryz.call13) <|.p 3 <|.ite (decide (r7 < 0))
 (.p 1 <|.ret (-1))
 (.p 2 <|.ret r7)))))))
def vQ (p0 : aQ) (p1 : Int) : Option (Int) := (xO p0 p1).den
theorem Mi (p0 : aQ) (p1 : Int) (v : Int) (h : vQ p0 p1 = some v) : ab Tryz.prog 4 [.agg (zX p0), iV p1] (iV v) [] :=
 (xO p0 p1).call aG Tryz.func4 rfl (res := (fun v => iV v)) (row := fun v => []) (by kernel_rfl) h
structure dJ where
 v4 : Int
 fH : (List ByteArray)
def iP (p0 : (List ByteArray)) (s1 : dJ) : Wk (dJ ⊕ (List ByteArray)) :=
 .p 4 <|.ite (decide (s1.v4 < ((p0.map aq).length : Int)))
 (.eb <|.p 4 <|.bnd (aB p0 s1.v4) fun x1 ex1 =>
 .s (.idx aq ex1) <|.p 1 <|.bnd (aB s1.fH s1.v4) fun x2 ex2 =>
 .s (.ixo aq ex2) <|.s (.st aq x1 (bO ex2).2 rfl) <|.im (.wc 3 (show (.one (.so [] 7 0 (((s1.fH).map aq).length)) : TV) = .one (.so [] 7 0 (((s1.fH.set ((s1.v4).toNat) x1).map aq).length)) by simp <;> omega)) <|.p 3 <|.ret (.inl ((⟨IntKind.wrap .i64 (s1.v4 + 1), s1.fH.set ((s1.v4).toNat) x1⟩ : dJ))))
 (.ret (.inr s1.fH))
def qY (p0 : (List ByteArray)) : Wk ((List ByteArray)) :=
 .p 3 <|.chk (0 <= (((p0.map aq).length : Int) : Int) /\ (((p0.map aq).length : Int) : Int).toNat * 16 <= 140737488355328) fun c1 =>
 .s (.make aq ((⟨#[]⟩ : ByteArray)) c1) <|.p 2 <|.jn true (ι := (List ByteArray)) (fun j => ms 22 [(3, .one (.so [] 7 0 (((j).map aq).length)))] [(7, [lC 1 aq j])])
 (.eb <|.loop (σ := dJ) (fun s1 => ms 22 [(0, lV 1 aq p0), (3, .one (.so [] 7 0 (((s1.fH).map aq).length))), (4, iV s1.v4)] [(7, [lC 1 aq s1.fH])]) ((⟨0, List.replicate (((p0.map aq).length : Int) : Int).toNat ((⟨#[]⟩ : ByteArray))⟩ : dJ)) (iP p0)) fun j1 =>
 .p 2 <|.ret j1
def lu (p0 : (List ByteArray)) : Option ((List ByteArray)) := (qY p0).den
theorem uV (p0 : (List ByteArray)) (v : (List ByteArray)) (h : lu p0 = some v) : ab Tryz.prog 28 [lV 1 aq p0] (.one (.so [] 0 0 (((v).map aq).length))) [lC 1 aq v] :=
 (qY p0).call aG Tryz.func28 rfl (res := (fun v => .one (.so [] 0 0 (((v).map aq).length)))) (row := (fun v => [lC 1 aq v])) (by kernel_rfl) h
structure fU where
 v4 : Int
 fH : (List Int)
def lQ (p0 : (List Int)) (s1 : fU) : Wk (fU ⊕ (List Int)) :=
 .p 4 <|.ite (decide (s1.v4 < ((p0.map ae).length : Int)))
 (.eb <|.p 4 <|.bnd (aB p0 s1.v4) fun x1 ex1 =>
 .s (.idx ae ex1) <|.p 1 <|.bnd (aB s1.fH s1.v4) fun x2 ex2 =>
 .s (.ixo ae ex2) <|.s (.st ae x1 (bO ex2).2 rfl) <|.im (.wc 3 (show (.one (.so [] 7 0 (((s1.fH).map ae).length)) : TV) = .one (.so [] 7 0 (((s1.fH.set ((s1.v4).toNat) x1).map ae).length)) by simp <;> omega)) <|.p 3 <|.ret (.inl ((⟨IntKind.wrap .i64 (s1.v4 + 1), s1.fH.set ((s1.v4).toNat) x1⟩ : fU))))
 (.ret (.inr s1.fH))
def xV (p0 : (List Int)) : Wk ((List Int)) :=
 .p 3 <|.chk (0 <= (((p0.map ae).length : Int) : Int) /\ (((p0.map ae).length : Int) : Int).toNat * 1 <= 140737488355328) fun c1 =>
 .s (.make ae 0 c1) <|.p 2 <|.jn true (ι := (List Int)) (fun j => ms 22 [(3, .one (.so [] 7 0 (((j).map ae).length)))] [(7, [lC 1 ae j])])
 (.eb <|.loop (σ := fU) (fun s1 => ms 22 [(0, lV 1 ae p0), (3, .one (.so [] 7 0 (((s1.fH).map ae).length))), (4, iV s1.v4)] [(7, [lC 1 ae s1.fH])]) ((⟨0, List.replicate (((p0.map ae).length : Int) : Int).toNat 0⟩ : fU)) (lQ p0)) fun j1 =>
 .p 2 <|.ret j1
def qI (p0 : (List Int)) : Option ((List Int)) := (xV p0).den
theorem Bl (p0 : (List Int)) (v : (List Int)) (h : qI p0 = some v) : ab Tryz.prog 177 [lV 1 ae p0] (.one (.so [] 0 0 (((v).map ae).length))) [lC 1 ae v] :=
 (xV p0).call aG Tryz.func177 rfl (res := (fun v => .one (.so [] 0 0 (((v).map ae).length)))) (row := (fun v => [lC 1 ae v])) (by kernel_rfl) h
def xZ (p0 : bb) : Wk (bb) :=
 .p 5 <|.bnd (qI p0.bytes) fun r1 er1 =>
 .s (.call (Bl p0.bytes r1 er1) Tryz.call177) <|.p 1 <|.s (.o) <|.p 1 <|.s (.o) <|.ret ((⟨r1⟩ : bb))
def vX (p0 : bb) : Option (bb) := (xZ p0).den
theorem Mq (p0 : bb) (v : bb) (h : vX p0 = some v) : ab Tryz.prog 148 [.agg [.c (lC 1 ae p0.bytes)]] (.agg [.so [] 0 0 (((v.bytes).map ae).length)]) [lC 1 ae v.bytes] :=
 (xZ p0).call aG Tryz.func148 rfl (res := (fun v => .agg [.so [] 0 0 (((v.bytes).map ae).length)])) (row := (fun v => [lC 1 ae v.bytes])) (by kernel_rfl) h
structure ey where
 v4 : Int
 fH : (List bb)
def jS (p0 : (List bb)) (s1 : ey) : Wk (ey ⊕ (List bb)) :=
 .p 4 <|.ite (decide (s1.v4 < ((p0.map aj).length : Int)))
 (.eb <|.p 4 <|.bnd (aB p0 s1.v4) fun x1 ex1 =>
 .s (.idx aj ex1) <|.p 1 <|.bnd (vX x1) fun r1 er1 =>
 .s (.call (Mq x1 r1 er1) Tryz.call148) <|.bnd (aB s1.fH s1.v4) fun x2 ex2 =>
 .s (.ixo aj ex2) <|.s (.stn aj r1 0 (bO ex2).2 rfl) <|.im (.wc 3 (show (.one (.so [] 7 0 (((s1.fH).map aj).length)) : TV) = .one (.so [] 7 0 (((s1.fH.set ((s1.v4).toNat) r1).map aj).length)) by simp <;> omega)) <|.p 3 <|.ret (.inl ((⟨IntKind.wrap .i64 (s1.v4 + 1), s1.fH.set ((s1.v4).toNat) r1⟩ : ey))))
 (.ret (.inr s1.fH))
def tU (p0 : (List bb)) : Wk ((List bb)) :=
 .p 3 <|.chk (0 <= (((p0.map aj).length : Int) : Int) /\ (((p0.map aj).length : Int) : Int).toNat * 24 <= 140737488355328) fun c1 =>
 .s (.make aj ((⟨[]⟩ : bb)) c1) <|.p 2 <|.jn true (ι := (List bb)) (fun j => ms 23 [(3, .one (.so [] 7 0 (((j).map aj).length)))] [(7, [lC 1 aj j])])
 (.eb <|.loop (σ := ey) (fun s1 => ms 23 [(0, lV 1 aj p0), (3, .one (.so [] 7 0 (((s1.fH).map aj).length))), (4, iV s1.v4)] [(7, [lC 1 aj s1.fH])]) ((⟨0, List.replicate (((p0.map aj).length : Int) : Int).toNat ((⟨[]⟩ : bb))⟩ : ey)) (jS p0)) fun j1 =>
 .p 2 <|.ret j1
def rX (p0 : (List bb)) : Option ((List bb)) := (tU p0).den
theorem JE (p0 : (List bb)) (v : (List bb)) (h : rX p0 = some v) : ab Tryz.prog 105 [lV 1 aj p0] (.one (.so [] 0 0 (((v).map aj).length))) [lC 1 aj v] :=
 (tU p0).call aG Tryz.func105 rfl (res := (fun v => .one (.so [] 0 0 (((v).map aj).length)))) (row := (fun v => [lC 1 aj v])) (by kernel_rfl) h
def yb (p0 : bc) : Wk (bc) :=
 .p 9 <|.bnd (qI p0.bytes) fun r1 er1 =>
 .s (.call (Bl p0.bytes r1 er1) Tryz.call177) <|.p 1 <|.s (.o) <|.p 1 <|.s (.o) <|.ret ((⟨p0.at_, r1⟩ : bc))
def vZ (p0 : bc) : Option (bc) := (yb p0).den
theorem Ms (p0 : bc) (v : bc) (h : vZ p0 = some v) : ab Tryz.prog 149 [.agg (Nu p0)] (.agg [.c (iC v.at_), .so [] 0 0 (((v.bytes).map ae).length)]) [lC 1 ae v.bytes] :=
 (yb p0).call aG Tryz.func149 rfl (res := (fun v => .agg [.c (iC v.at_), .so [] 0 0 (((v.bytes).map ae).length)])) (row := (fun v => [lC 1 ae v.bytes])) (by kernel_rfl) h
structure ez where
 v4 : Int
 fH : (List bc)
def jT (p0 : (List bc)) (s1 : ez) : Wk (ez ⊕ (List bc)) :=
 .p 4 <|.ite (decide (s1.v4 < ((p0.map ao).length : Int)))
 (.eb <|.p 4 <|.bnd (aB p0 s1.v4) fun x1 ex1 =>
 .s (.idx ao ex1) <|.p 1 <|.bnd (vZ x1) fun r1 er1 =>
 .s (.call (Ms x1 r1 er1) Tryz.call149) <|.bnd (aB s1.fH s1.v4) fun x2 ex2 =>
 .s (.ixo ao ex2) <|.s (.stn ao r1 1 (bO ex2).2 rfl) <|.im (.wc 3 (show (.one (.so [] 7 0 (((s1.fH).map ao).length)) : TV) = .one (.so [] 7 0 (((s1.fH.set ((s1.v4).toNat) r1).map ao).length)) by simp <;> omega)) <|.p 3 <|.ret (.inl ((⟨IntKind.wrap .i64 (s1.v4 + 1), s1.fH.set ((s1.v4).toNat) r1⟩ : ez))))
 (.ret (.inr s1.fH))
def tV (p0 : (List bc)) : Wk ((List bc)) :=
 .p 3 <|.chk (0 <= (((p0.map ao).length : Int) : Int) /\ (((p0.map ao).length : Int) : Int).toNat * 32 <= 140737488355328) fun c1 =>
 .s (.make ao ((⟨0, []⟩ : bc)) c1) <|.p 2 <|.jn true (ι := (List bc)) (fun j => ms 23 [(3, .one (.so [] 7 0 (((j).map ao).length)))] [(7, [lC 2 ao j])])
 (.eb <|.loop (σ := ez) (fun s1 => ms 23 [(0, lV 2 ao p0), (3, .one (.so [] 7 0 (((s1.fH).map ao).length))), (4, iV s1.v4)] [(7, [lC 2 ao s1.fH])]) ((⟨0, List.replicate (((p0.map ao).length : Int) : Int).toNat ((⟨0, []⟩ : bc))⟩ : ez)) (jT p0)) fun j1 =>
 .p 2 <|.ret j1
def rY (p0 : (List bc)) : Option ((List bc)) := (tV p0).den
theorem JF (p0 : (List bc)) (v : (List bc)) (h : rY p0 = some v) : ab Tryz.prog 106 [lV 2 ao p0] (.one (.so [] 0 0 (((v).map ao).length))) [lC 2 ao v] :=
 (tV p0).call aG Tryz.func106 rfl (res := (fun v => .one (.so [] 0 0 (((v).map ao).length)))) (row := (fun v => [lC 2 ao v])) (by kernel_rfl) h
def CZ (p0 : bp) : Wk (bp) :=
 .p 5 <|.bnd (rX p0.sheets) fun r1 er1 =>
 .s (.call (JE p0.sheets r1 er1) Tryz.call105) <|.p 1 <|.s (.o) <|.p 2 <|.bnd (rY p0.dirty) fun r2 er2 =>
 .s (.call (JF p0.dirty r2 er2) Tryz.call106) <|.p 1 <|.s (.o) <|.p 1 <|.s (.o) <|.ret ((⟨r1, r2⟩ : bp))
def zI (p0 : bp) : Option (bp) := (CZ p0).den
theorem Qe (p0 : bp) (v : bp) (h : zI p0 = some v) : ab Tryz.prog 69 [.agg (sg p0)] (.agg [.so [] 0 0 (((v.sheets).map aj).length), .so [] 0 1 (((v.dirty).map ao).length)]) (gZ v) :=
 (CZ p0).call aG Tryz.func69 rfl (res := (fun v => .agg [.so [] 0 0 (((v.sheets).map aj).length), .so [] 0 1 (((v.dirty).map ao).length)])) (row := (fun v => (gZ v))) (by kernel_rfl) h
def KK (p0 : az) : Wk (az) :=
 .p 13 <|.ret p0
def Hw (p0 : az) : Option (az) := (KK p0).den
theorem Qh (p0 : az) (v : az) (h : Hw p0 = some v) : ab Tryz.prog 151 [.agg (EW p0)] (.agg (EW v)) [] :=
 (KK p0).call aG Tryz.func151 rfl (res := (fun v => .agg (EW v))) (row := fun v => []) (by kernel_rfl) h
structure fX where
 v4 : Int
 fH : (List az)
def lS (p0 : (List az)) (s1 : fX) : Wk (fX ⊕ (List az)) :=
 .p 4 <|.ite (decide (s1.v4 < ((p0.map af).length : Int)))
 (.eb <|.p 4 <|.bnd (aB p0 s1.v4) fun x1 ex1 =>
 .s (.idx af ex1) <|.p 1 <|.bnd (Hw x1) fun r1 er1 =>
 .s (.call (Qh x1 r1 er1) Tryz.call151) <|.bnd (aB s1.fH s1.v4) fun x2 ex2 =>
 .s (.ixo af ex2) <|.s (.st af r1 (bO ex2).2 rfl) <|.im (.wc 3 (show (.one (.so [] 7 0 (((s1.fH).map af).length)) : TV) = .one (.so [] 7 0 (((s1.fH.set ((s1.v4).toNat) r1).map af).length)) by simp <;> omega)) <|.p 3 <|.ret (.inl ((⟨IntKind.wrap .i64 (s1.v4 + 1), s1.fH.set ((s1.v4).toNat) r1⟩ : fX))))
 (.ret (.inr s1.fH))
def xY (p0 : (List az)) : Wk ((List az)) :=
 .p 3 <|.chk (0 <= (((p0.map af).length : Int) : Int) /\ (((p0.map af).length : Int) : Int).toNat * 32 <= 140737488355328) fun c1 =>
 .s (.make af ((⟨(⟨#[]⟩ : ByteArray), (⟨#[]⟩ : ByteArray)⟩ : az)) c1) <|.p 2 <|.jn true (ι := (List az)) (fun j => ms 23 [(3, .one (.so [] 7 0 (((j).map af).length)))] [(7, [lC 2 af j])])
 (.eb <|.loop (σ := fX) (fun s1 => ms 23 [(0, lV 2 af p0), (3, .one (.so [] 7 0 (((s1.fH).map af).length))), (4, iV s1.v4)] [(7, [lC 2 af s1.fH])]) ((⟨0, List.replicate (((p0.map af).length : Int) : Int).toNat ((⟨(⟨#[]⟩ : ByteArray), (⟨#[]⟩ : ByteArray)⟩ : az))⟩ : fX)) (lS p0)) fun j1 =>
 .p 2 <|.ret j1
def qJ (p0 : (List az)) : Option ((List az)) := (xY p0).den
theorem Bm (p0 : (List az)) (v : (List az)) (h : qJ p0 = some v) : ab Tryz.prog 108 [lV 2 af p0] (.one (.so [] 0 0 (((v).map af).length))) [lC 2 af v] :=
 (xY p0).call aG Tryz.func108 rfl (res := (fun v => .one (.so [] 0 0 (((v).map af).length)))) (row := (fun v => [lC 2 af v])) (by kernel_rfl) h
structure ib where
 v4 : Int
 fH : (List Int)
def nO (p0 : (List Int)) (s1 : ib) : Wk (ib ⊕ (List Int)) :=
 .p 4 <|.ite (decide (s1.v4 < ((p0.map ah).length : Int)))
 (.eb <|.p 4 <|.bnd (aB p0 s1.v4) fun x1 ex1 =>
 .s (.idx ah ex1) <|.p 1 <|.bnd (aB s1.fH s1.v4) fun x2 ex2 =>
 .s (.ixo ah ex2) <|.s (.st ah x1 (bO ex2).2 rfl) <|.im (.wc 3 (show (.one (.so [] 7 0 (((s1.fH).map ah).length)) : TV) = .one (.so [] 7 0 (((s1.fH.set ((s1.v4).toNat) x1).map ah).length)) by simp <;> omega)) <|.p 3 <|.ret (.inl ((⟨IntKind.wrap .i64 (s1.v4 + 1), s1.fH.set ((s1.v4).toNat) x1⟩ : ib))))
 (.ret (.inr s1.fH))
def Da (p0 : (List Int)) : Wk ((List Int)) :=
 .p 3 <|.chk (0 <= (((p0.map ah).length : Int) : Int) /\ (((p0.map ah).length : Int) : Int).toNat * 8 <= 140737488355328) fun c1 =>
 .s (.make ah 0 c1) <|.p 2 <|.jn true (ι := (List Int)) (fun j => ms 22 [(3, .one (.so [] 7 0 (((j).map ah).length)))] [(7, [lC 1 ah j])])
 (.eb <|.loop (σ := ib) (fun s1 => ms 22 [(0, lV 1 ah p0), (3, .one (.so [] 7 0 (((s1.fH).map ah).length))), (4, iV s1.v4)] [(7, [lC 1 ah s1.fH])]) ((⟨0, List.replicate (((p0.map ah).length : Int) : Int).toNat 0⟩ : ib)) (nO p0)) fun j1 =>
 .p 2 <|.ret j1
def mo (p0 : (List Int)) : Option ((List Int)) := (Da p0).den
theorem na (p0 : (List Int)) (v : (List Int)) (h : mo p0 = some v) : ab Tryz.prog 31 [lV 1 ah p0] (.one (.so [] 0 0 (((v).map ah).length))) [lC 1 ah v] :=
 (Da p0).call aG Tryz.func31 rfl (res := (fun v => .one (.so [] 0 0 (((v).map ah).length)))) (row := (fun v => [lC 1 ah v])) (by kernel_rfl) h
def Dc (p0 : Node) : Wk (Node) :=
 .p 5 <|.bnd (qJ p0.pairs) fun r1 er1 =>
 .s (.call (Bm p0.pairs r1 er1) Tryz.call108) <|.p 1 <|.s (.o) <|.p 2 <|.bnd (lu p0.keys) fun r2 er2 =>
 .s (.call (uV p0.keys r2 er2) Tryz.call28) <|.p 1 <|.s (.o) <|.p 2 <|.bnd (mo p0.kids) fun r3 er3 =>
 .s (.call (na p0.kids r3 er3) Tryz.call31) <|.p 1 <|.s (.o) <|.p 1 <|.s (.o) <|.ret ((⟨r1, r2, r3⟩ : Node))
def zK (p0 : Node) : Option (Node) := (Dc p0).den
theorem Qg (p0 : Node) (v : Node) (h : zK p0 = some v) : ab Tryz.prog 150 [.agg (HV p0)] (.agg [.so [] 0 0 (((v.pairs).map af).length), .so [] 0 1 (((v.keys).map aq).length), .so [] 0 2 (((v.kids).map ah).length)]) (aa v) :=
 (Dc p0).call aG Tryz.func150 rfl (res := (fun v => .agg [.so [] 0 0 (((v.pairs).map af).length), .so [] 0 1 (((v.keys).map aq).length), .so [] 0 2 (((v.kids).map ah).length)])) (row := (fun v => (aa v))) (by kernel_rfl) h
structure fW where
 v4 : Int
 fH : (List Node)
def lR (p0 : (List Node)) (s1 : fW) : Wk (fW ⊕ (List Node)) :=
 .p 4 <|.ite (decide (s1.v4 < ((p0.map aa).length : Int)))
 (.eb <|.p 4 <|.bnd (aB p0 s1.v4) fun x1 ex1 =>
 .s (.idx aa ex1) <|.p 1 <|.bnd (zK x1) fun r1 er1 =>
 .s (.call (Qg x1 r1 er1) Tryz.call150) <|.bnd (aB s1.fH s1.v4) fun x2 ex2 =>
 .s (.ixo aa ex2) <|.s (.stm aa r1 (bO ex2).2 rfl) <|.im (.wc 3 (show (.one (.so [] 7 0 (((s1.fH).map aa).length)) : TV) = .one (.so [] 7 0 (((s1.fH.set ((s1.v4).toNat) r1).map aa).length)) by simp <;> omega)) <|.p 3 <|.ret (.inl ((⟨IntKind.wrap .i64 (s1.v4 + 1), s1.fH.set ((s1.v4).toNat) r1⟩ : fW))))
 (.ret (.inr s1.fH))
def xX (p0 : (List Node)) : Wk ((List Node)) :=
 .p 3 <|.chk (0 <= (((p0.map aa).length : Int) : Int) /\ (((p0.map aa).length : Int) : Int).toNat * 72 <= 140737488355328) fun c1 =>
 .s (.make aa ((⟨[], [], []⟩ : Node)) c1) <|.p 2 <|.jn true (ι := (List Node)) (fun j => ms 23 [(3, .one (.so [] 7 0 (((j).map aa).length)))] [(7, [lC 3 aa j])])
 (.eb <|.loop (σ := fW) (fun s1 => ms 23 [(0, lV 3 aa p0), (3, .one (.so [] 7 0 (((s1.fH).map aa).length))), (4, iV s1.v4)] [(7, [lC 3 aa s1.fH])]) ((⟨0, List.replicate (((p0.map aa).length : Int) : Int).toNat ((⟨[], [], []⟩ : Node))⟩ : fW)) (lR p0)) fun j1 =>
 .p 2 <|.ret j1
def vW (p0 : (List Node)) : Option ((List Node)) := (xX p0).den
theorem Mo (p0 : (List Node)) (v : (List Node)) (h : vW p0 = some v) : ab Tryz.prog 107 [lV 3 aa p0] (.one (.so [] 0 0 (((v).map aa).length))) [lC 3 aa v] :=
 (xX p0).call aG Tryz.func107 rfl (res := (fun v => .one (.so [] 0 0 (((v).map aa).length)))) (row := (fun v => [lC 3 aa v])) (by kernel_rfl) h
def Dd (p0 : Tree) : Wk (Tree) :=
 .p 5 <|.bnd (vW p0.nodes) fun r1 er1 =>
 .s (.call (Mo p0.nodes r1 er1) Tryz.call107) <|.p 1 <|.s (.o) <|.p 1 <|.s (.o) <|.ret ((⟨r1⟩ : Tree))
def zL (p0 : Tree) : Option (Tree) := (Dd p0).den
theorem Qi (p0 : Tree) (v : Tree) (h : zL p0 = some v) : ab Tryz.prog 70 [.agg [.c (lC 3 aa p0.nodes)]] (.agg [.so [] 0 0 (((v.nodes).map aa).length)]) [lC 3 aa v.nodes] :=
 (Dd p0).call aG Tryz.func70 rfl (res := (fun v => .agg [.so [] 0 0 (((v.nodes).map aa).length)])) (row := (fun v => [lC 3 aa v.nodes])) (by kernel_rfl) h
def ya (p0 : cj) : Wk (cj) :=
 .p 5 <|.bnd (zI p0.disk) fun r1 er1 =>
 .s (.call (Qe p0.disk r1 er1) Tryz.call69) <|.p 1 <|.s (.o) <|.p 6 <|.bnd (zL p0.tree) fun r2 er2 =>
 .s (.call (Qi p0.tree r2 er2) Tryz.call70) <|.p 1 <|.s (.o) <|.p 2 <|.bnd (mo p0.places) fun r3 er3 =>
 .s (.call (na p0.places r3 er3) Tryz.call31) <|.p 1 <|.s (.o) <|.p 1 <|.s (.o) <|.ret ((⟨r1, p0.gen, r2, r3⟩ : cj))
def vY (p0 : cj) : Option (cj) := (ya p0).den
theorem Mr (p0 : cj) (v : cj) (h : vY p0 = some v) : ab Tryz.prog 29 [.agg (DA p0)] (.agg [.so [] 0 0 (((v.disk.sheets).map aj).length), .so [] 0 1 (((v.disk.dirty).map ao).length), .c (iC v.gen), .so [] 0 2 (((v.tree.nodes).map aa).length), .so [] 0 3 (((v.places).map ah).length)]) [lC 1 aj v.disk.sheets, lC 2 ao v.disk.dirty, lC 3 aa v.tree.nodes, lC 1 ah v.places] :=
 (ya p0).call aG Tryz.func29 rfl (res := (fun v => .agg [.so [] 0 0 (((v.disk.sheets).map aj).length), .so [] 0 1 (((v.disk.dirty).map ao).length), .c (iC v.gen), .so [] 0 2 (((v.tree.nodes).map aa).length), .so [] 0 3 (((v.places).map ah).length)])) (row := (fun v => [lC 1 aj v.disk.sheets, lC 2 ao v.disk.dirty, lC 3 aa v.tree.nodes, lC 1 ah v.places])) (by kernel_rfl) h
def TU (p0 : Tx) : Wk (Tx) :=
 .p 17 <|.ret p0
def OT (p0 : Tx) : Option (Tx) := (TU p0).den
theorem NV (p0 : Tx) (v : Tx) (h : OT p0 = some v) : ab Tryz.prog 30 [.agg (aTx p0)] (.agg (aTx v)) [] :=
 (TU p0).call aG Tryz.func30 rfl (res := (fun v => .agg (aTx v))) (row := fun v => []) (by kernel_rfl) h
def EP (p0 : Range) : Wk (Range) :=
 .p 13 <|.ret p0
def Cp (p0 : Range) : Option (Range) := (EP p0).den
theorem Mp (p0 : Range) (v : Range) (h : Cp p0 = some v) : ab Tryz.prog 71 [.agg (sy p0)] (.agg (sy v)) [] :=
 (EP p0).call aG Tryz.func71 rfl (res := (fun v => .agg (sy v))) (row := fun v => []) (by kernel_rfl) h
def HN (p0 : Ask) : Wk (Ask) :=
 .p 17 <|.bnd (Cp p0.range) fun r1 er1 =>
 .s (.call (Mp p0.range r1 er1) Tryz.call71) <|.p 12 <|.ret ((⟨p0.kind, p0.key, p0.val, r1, p0.most, p0.back⟩ : Ask))
def Co (p0 : Ask) : Option (Ask) := (HN p0).den
theorem JD (p0 : Ask) (v : Ask) (h : Co p0 = some v) : ab Tryz.prog 32 [.agg (VD p0)] (.agg (VD v)) [] :=
 (HN p0).call aG Tryz.func32 rfl (res := (fun v => .agg (VD v))) (row := fun v => []) (by kernel_rfl) h
def HO (p0 : Msg) : Wk (Msg) :=
 .p 9 <|.bnd (OT p0.tx) fun r1 er1 =>
 .s (.call (NV p0.tx r1 er1) Tryz.call30) <|.p 16 <|.bnd (Co p0.ask) fun r2 er2 =>
 .s (.call (JD p0.ask r2 er2) Tryz.call32) <|.p 8 <|.bnd (qJ p0.pairs) fun r3 er3 =>
 .s (.call (Bm p0.pairs r3 er3) Tryz.call108) <|.p 1 <|.s (.o) <|.p 5 <|.s (.o) <|.ret ((⟨p0.kind, r1, p0.shard, p0.num, p0.stamp, r2, p0.code, r3, p0.yes⟩ : Msg))
def Hv (p0 : Msg) : Option (Msg) := (HO p0).den
theorem Su (p0 : Msg) (v : Msg) (h : Hv p0 = some v) : ab Tryz.prog 72 [.agg (TW p0)] (.agg [.c (iC v.kind), .c (iC v.tx.c), .c (iC v.tx.e), .c (iC v.tx.n), .c (iC v.shard), .c (iC v.num), .c (iC v.stamp), .c (iC v.ask.kind), .c (sC v.ask.key), .c (sC v.ask.val), .c (sC v.ask.range.lo), .c (sC v.ask.range.hi), .c (iC v.ask.most), .c (bC v.ask.back), .c (iC v.code), .so [] 0 0 (((v.pairs).map af).length), .c (bC v.yes)]) [lC 2 af v.pairs] :=
 (HO p0).call aG Tryz.func72 rfl (res := (fun v => .agg [.c (iC v.kind), .c (iC v.tx.c), .c (iC v.tx.e), .c (iC v.tx.n), .c (iC v.shard), .c (iC v.num), .c (iC v.stamp), .c (iC v.ask.kind), .c (sC v.ask.key), .c (sC v.ask.val), .c (sC v.ask.range.lo), .c (sC v.ask.range.hi), .c (iC v.ask.most), .c (bC v.ask.back), .c (iC v.code), .so [] 0 0 (((v.pairs).map af).length), .c (bC v.yes)])) (row := (fun v => [lC 2 af v.pairs])) (by kernel_rfl) h
structure ic where
 v4 : Int
 fH : (List Msg)
def nP (p0 : (List Msg)) (s1 : ic) : Wk (ic ⊕ (List Msg)) :=
 .p 4 <|.ite (decide (s1.v4 < ((p0.map cC).length : Int)))
 (.eb <|.p 4 <|.bnd (aB p0 s1.v4) fun x1 ex1 =>
 .s (.idx cC ex1) <|.p 1 <|.bnd (Hv x1) fun r1 er1 =>
 .s (.call (Su x1 r1 er1) Tryz.call72) <|.bnd (aB s1.fH s1.v4) fun x2 ex2 =>
 .s (.ixo cC ex2) <|.s (.stn cC r1 15 (bO ex2).2 rfl) <|.im (.wc 3 (show (.one (.so [] 7 0 (((s1.fH).map cC).length)) : TV) = .one (.so [] 7 0 (((s1.fH.set ((s1.v4).toNat) r1).map cC).length)) by simp <;> omega)) <|.p 3 <|.ret (.inl ((⟨IntKind.wrap .i64 (s1.v4 + 1), s1.fH.set ((s1.v4).toNat) r1⟩ : ic))))
 (.ret (.inr s1.fH))
def Db (p0 : (List Msg)) : Wk ((List Msg)) :=
 .p 3 <|.chk (0 <= (((p0.map cC).length : Int) : Int) /\ (((p0.map cC).length : Int) : Int).toNat * 184 <= 140737488355328) fun c1 =>
 .s (.make cC ((⟨0, (⟨0, 0, 0⟩ : Tx), 0, 0, 0, (⟨0, (⟨#[]⟩ : ByteArray), (⟨#[]⟩ : ByteArray), (⟨(⟨#[]⟩ : ByteArray), (⟨#[]⟩ : ByteArray)⟩ : Range), 0, false⟩ : Ask), 0, [], false⟩ : Msg)) c1) <|.p 2 <|.jn true (ι := (List Msg)) (fun j => ms 23 [(3, .one (.so [] 7 0 (((j).map cC).length)))] [(7, [lC 17 cC j])])
 (.eb <|.loop (σ := ic) (fun s1 => ms 23 [(0, lV 17 cC p0), (3, .one (.so [] 7 0 (((s1.fH).map cC).length))), (4, iV s1.v4)] [(7, [lC 17 cC s1.fH])]) ((⟨0, List.replicate (((p0.map cC).length : Int) : Int).toNat ((⟨0, (⟨0, 0, 0⟩ : Tx), 0, 0, 0, (⟨0, (⟨#[]⟩ : ByteArray), (⟨#[]⟩ : ByteArray), (⟨(⟨#[]⟩ : ByteArray), (⟨#[]⟩ : ByteArray)⟩ : Range), 0, false⟩ : Ask), 0, [], false⟩ : Msg))⟩ : ic)) (nP p0)) fun j1 =>
 .p 2 <|.ret j1
def zJ (p0 : (List Msg)) : Option ((List Msg)) := (Db p0).den
theorem Qf (p0 : (List Msg)) (v : (List Msg)) (h : zJ p0 = some v) : ab Tryz.prog 33 [lV 17 cC p0] (.one (.so [] 0 0 (((v).map cC).length))) [lC 17 cC v] :=
 (Db p0).call aG Tryz.func33 rfl (res := (fun v => .one (.so [] 0 0 (((v).map cC).length)))) (row := (fun v => [lC 17 cC v])) (by kernel_rfl) h
def xW (p0 : aQ) : Wk (aQ) :=
 .p 9 <|.bnd (lu p0.splits) fun r1 er1 =>
 .s (.call (uV p0.splits r1 er1) Tryz.call28) <|.p 1 <|.s (.o) <|.p 2 <|.bnd (vY p0.store) fun r2 er2 =>
 .s (.call (Mr p0.store r2 er2) Tryz.call29) <|.p 1 <|.s (.o) <|.p 14 <|.bnd (OT p0.tx) fun r3 er3 =>
 .s (.call (NV p0.tx r3 er3) Tryz.call30) <|.p 4 <|.bnd (mo p0.counts) fun r4 er4 =>
 .s (.call (na p0.counts r4 er4) Tryz.call31) <|.p 1 <|.s (.o) <|.p 2 <|.bnd (mo p0.stamps) fun r5 er5 =>
 .s (.call (na p0.stamps r5 er5) Tryz.call31) <|.p 1 <|.s (.o) <|.p 2 <|.bnd (mo p0.pend) fun r6 er6 =>
 .s (.call (na p0.pend r6 er6) Tryz.call31) <|.p 1 <|.s (.o) <|.p 2 <|.bnd (Co p0.ask) fun r7 er7 =>
 .s (.call (JD p0.ask r7 er7) Tryz.call32) <|.p 4 <|.bnd (zJ p0.got) fun r8 er8 =>
 .s (.call (Qf p0.got r8 er8) Tryz.call33) <|.p 1 <|.s (.o) <|.p 5 <|.s (.o) <|.ret ((⟨p0.id, r1, r2, p0.epoch, p0.num, p0.phase, r3, r4, r5, r6, r7, r8, p0.age⟩ : aQ))
def nm (p0 : aQ) : Option (aQ) := (xW p0).den
theorem te (p0 : aQ) (v : aQ) (h : nm p0 = some v) : ab Tryz.prog 6 [.agg (zX p0)] (.agg [.c (iC v.id), .so [] 0 0 (((v.splits).map aq).length), .so [] 0 1 (((v.store.disk.sheets).map aj).length), .so [] 0 2 (((v.store.disk.dirty).map ao).length), .c (iC v.store.gen), .so [] 0 3 (((v.store.tree.nodes).map aa).length), .so [] 0 4 (((v.store.places).map ah).length), .c (iC v.epoch), .c (iC v.num), .c (iC v.phase), .c (iC v.tx.c), .c (iC v.tx.e), .c (iC v.tx.n), .so [] 0 5 (((v.counts).map ah).length), .so [] 0 6 (((v.stamps).map ah).length), .so [] 0 7 (((v.pend).map ah).length), .c (iC v.ask.kind), .c (sC v.ask.key), .c (sC v.ask.val), .c (sC v.ask.range.lo), .c (sC v.ask.range.hi), .c (iC v.ask.most), .c (bC v.ask.back), .so [] 0 8 (((v.got).map cC).length), .c (iC v.age)]) [lC 1 aq v.splits, lC 1 aj v.store.disk.sheets, lC 2 ao v.store.disk.dirty, lC 3 aa v.store.tree.nodes, lC 1 ah v.store.places, lC 1 ah v.counts, lC 1 ah v.stamps, lC 1 ah v.pend, lC 17 cC v.got] :=
 (xW p0).call aG Tryz.func6 rfl (res := (fun v => .agg [.c (iC v.id), .so [] 0 0 (((v.splits).map aq).length), .so [] 0 1 (((v.store.disk.sheets).map aj).length), .so [] 0 2 (((v.store.disk.dirty).map ao).length), .c (iC v.store.gen), .so [] 0 3 (((v.store.tree.nodes).map aa).length), .so [] 0 4 (((v.store.places).map ah).length), .c (iC v.epoch), .c (iC v.num), .c (iC v.phase), .c (iC v.tx.c), .c (iC v.tx.e), .c (iC v.tx.n), .so [] 0 5 (((v.counts).map ah).length), .so [] 0 6 (((v.stamps).map ah).length), .so [] 0 7 (((v.pend).map ah).length), .c (iC v.ask.kind), .c (sC v.ask.key), .c (sC v.ask.val), .c (sC v.ask.range.lo), .c (sC v.ask.range.hi), .c (iC v.ask.most), .c (bC v.ask.back), .so [] 0 8 (((v.got).map cC).length), .c (iC v.age)])) (row := (fun v => [lC 1 aq v.splits, lC 1 aj v.store.disk.sheets, lC 2 ao v.store.disk.dirty, lC 3 aa v.store.tree.nodes, lC 1 ah v.store.places, lC 1 ah v.counts, lC 1 ah v.stamps, lC 1 ah v.pend, lC 17 cC v.got])) (by kernel_rfl) h
def CI (p0 : ByteArray) : Wk (Bool) :=
 .p 1 <|.jn false (ι := Bool) (fun j => ms 11 [(2, bV j)] [])
 (.p 4 <|.cut 6 (decide (((p0.size : Int)) >= 1))
 (.p 5 <|.ret (decide (((p0.size : Int)) <= 8)))
 (.p 5 <|.ret false)) fun j1 =>
 .ret j1
def rL (p0 : ByteArray) : Option (Bool) := (CI p0).den
theorem wK (p0 : ByteArray) (v : Bool) (h : rL p0 = some v) : ab Tryz.prog 55 [sV p0] (bV v) [] :=
 (CI p0).call aG Tryz.func55 rfl (res := (fun v => bV v)) (row := fun v => []) (by kernel_rfl) h
def HE (p0 : ByteArray) : Wk (Bool) :=
 .p 1 <|.jn false (ι := Bool) (fun j => ms 11 [(2, bV j)] [])
 (.p 4 <|.cut 6 (decide (((p0.size : Int)) >= 1))
 (.p 5 <|.ret (decide (((p0.size : Int)) <= 16)))
 (.p 5 <|.ret false)) fun j1 =>
 .ret j1
def tp (p0 : ByteArray) : Option (Bool) := (HE p0).den
theorem kV (p0 : ByteArray) (v : Bool) (h : tp p0 = some v) : ab Tryz.prog 63 [sV p0] (bV v) [] :=
 (HE p0).call aG Tryz.func63 rfl (res := (fun v => bV v)) (row := fun v => []) (by kernel_rfl) h
def jO (p0 : (List ByteArray)) (s1 : Int) : Wk (Int ⊕ (Unit ⊕ (Bool))) :=
 .p 1 <|.ite (decide (s1 < ((p0.map aq).length : Int)))
 (.eb <|.p 1 <|.bnd (aB p0 s1) fun x1 ex1 =>
 .s (.idx aq ex1) <|.p 3 <|.jn false (ι := Bool) (fun j => ms 32 [(0, lV 1 aq p0), (8, lV 1 aq p0), (9, iV ((p0.map aq).length : Int)), (10, iV s1), (30, bV j)] [])
 (.p 1 <|.bnd (tp x1) fun r1 er1 =>
 .s (.call (kV x1 r1 er1) Tryz.call63) <|.p 2 <|.cut 18 (!r1)
 (.p 12 <|.ret true)
 (.p 3 <|.cut 21 (decide (s1 > 0))
 (.p 3 <|.bnd (aB p0 (IntKind.wrap .i64 (s1 - 1))) fun x2 ex2 =>
 .s (.idx aq ex2) <|.p 5 <|.ret (!Op.bytesLess x2.toList x1.toList))
 (.p 9 <|.ret false))) fun j1 =>
 .ite (j1)
 (.p 1 <|.ret (.inr (.inr false)))
 (.p 2 <|.ret (.inl (IntKind.wrap .i64 (s1 + 1)))))
 (.ret (.inr (.inl (()))))
def tK (p0 : (List ByteArray)) : Wk (Bool) :=
 .p 4 <|.ite (decide (((p0.map aq).length : Int) > 3))
 (.p 1 <|.ret false)
 (.p 3 <|.join true (ι := Unit) (fun j => ms 32 [] [])
 (.eb <|.loop (σ := Int) (fun s1 => ms 32 [(0, lV 1 aq p0), (8, lV 1 aq p0), (9, iV ((p0.map aq).length : Int)), (10, iV s1)] []) 0 (jO p0)) fun j2 =>
 .p 1 <|.ret true)
def rK (p0 : (List ByteArray)) : Option (Bool) := (tK p0).den
theorem Js (p0 : (List ByteArray)) (v : Bool) (h : rK p0 = some v) : ab Tryz.prog 56 [lV 1 aq p0] (bV v) [] :=
 (tK p0).call aG Tryz.func56 rfl (res := (fun v => bV v)) (row := fun v => []) (by kernel_rfl) h
def iN (p0 : (List ByteArray)) (s1 : Int) : Wk (Int ⊕ (Unit ⊕ (Bool))) :=
 .p 1 <|.ite (decide (s1 < ((p0.map aq).length : Int)))
 (.eb <|.bnd (aB p0 s1) fun x1 ex1 =>
 .s (.idx aq ex1) <|.p 3 <|.bnd (rL x1) fun r1 er1 =>
 .s (.call (wK x1 r1 er1) Tryz.call55) <|.p 1 <|.ite (!r1)
 (.p 1 <|.ret (.inr (.inr false)))
 (.p 2 <|.ret (.inl (IntKind.wrap .i64 (s1 + 1)))))
 (.ret (.inr (.inl (()))))
def qV (p0 : (List ByteArray)) : Wk (Bool) :=
 .p 4 <|.join true (ι := Unit) (fun j => ms 17 [(0, lV 1 aq p0)] [])
 (.eb <|.loop (σ := Int) (fun s1 => ms 17 [(0, lV 1 aq p0), (5, lV 1 aq p0), (6, iV ((p0.map aq).length : Int)), (7, iV s1)] []) 0 (iN p0)) fun j1 =>
 .p 1 <|.bnd (rK p0) fun r2 er2 =>
 .s (.call (Js p0 r2 er2) Tryz.call56) <|.p 1 <|.ret r2
def oO (p0 : (List ByteArray)) : Option (Bool) := (qV p0).den
theorem eC (p0 : (List ByteArray)) (v : Bool) (h : oO p0 = some v) : ab Tryz.prog 14 [lV 1 aq p0] (bV v) [] :=
 (qV p0).call aG Tryz.func14 rfl (res := (fun v => bV v)) (row := fun v => []) (by kernel_rfl) h
def nA (p0 : bp) (s1 : Int) : Wk (Int ⊕ (Unit ⊕ (Bool))) :=
 .p 1 <|.ite (decide (s1 < ((p0.sheets.map aj).length : Int)))
 (.eb <|.bnd (aB p0.sheets s1) fun x1 ex1 =>
 .s (.idx aj ex1) <|.p 3 <|.jn false (ι := Bool) (fun j => ms 66 [(1, pV 1), (24, lV 1 aj p0.sheets), (25, iV ((p0.sheets.map aj).length : Int)), (26, iV s1), (39, bV j)] [(1, [.bx (dN p0)])])
 (.p 5 <|.cut 34 ((((x1.bytes.map ae).length : Int) != 0))
 (.p 5 <|.ret ((((x1.bytes.map ae).length : Int) != 512)))
 (.p 5 <|.ret false)) fun j2 =>
 .ite (j2)
 (.p 1 <|.ret (.inr (.inr false)))
 (.p 2 <|.ret (.inl (IntKind.wrap .i64 (s1 + 1)))))
 (.ret (.inr (.inl (()))))
def nB (p0 : bp) (s2 : Int) : Wk (Int ⊕ (Unit ⊕ (Bool))) :=
 .p 1 <|.ite (decide (s2 < ((p0.dirty.map ao).length : Int)))
 (.eb <|.bnd (aB p0.dirty s2) fun x2 ex2 =>
 .s (.idx ao ex2) <|.p 3 <|.jn false (ι := Bool) (fun j => ms 66 [(1, pV 1), (42, lV 2 ao p0.dirty), (43, iV ((p0.dirty.map ao).length : Int)), (44, iV s2), (64, bV j)] [(1, [.bx (dN p0)])])
 (.p 4 <|.cut 51 (decide (x2.at_ < 0))
 (.p 13 <|.ret true)
 (.p 8 <|.cut 59 (decide (x2.at_ >= ((p0.sheets.map aj).length : Int)))
 (.p 5 <|.ret true)
 (.p 5 <|.ret ((((x2.bytes.map ae).length : Int) != 512))))) fun j4 =>
 .ite (j4)
 (.p 1 <|.ret (.inr (.inr false)))
 (.p 2 <|.ret (.inl (IntKind.wrap .i64 (s2 + 1)))))
 (.ret (.inr (.inl (()))))
def CB (p0 : bp) : Wk (Bool) :=
 .p 2 <|.jn false (ι := Bool) (fun j => ms 66 [(1, pV 1), (22, bV j)] [(1, [.bx (dN p0)])])
 (.p 5 <|.cut 11 (decide (((p0.sheets.map aj).length : Int) < 2))
 (.p 11 <|.ret true)
 (.p 6 <|.cut 17 (decide (((p0.sheets.map aj).length : Int) > 400))
 (.p 5 <|.ret true)
 (.p 5 <|.ret (decide (((p0.dirty.map ao).length : Int) > 500))))) fun j1 =>
 .ite (j1)
 (.p 1 <|.ret false)
 (.p 4 <|.join true (ι := Unit) (fun j => ms 66 [(1, pV 1)] [(1, [.bx (dN p0)])])
 (.eb <|.loop (σ := Int) (fun s1 => ms 66 [(1, pV 1), (24, lV 1 aj p0.sheets), (25, iV ((p0.sheets.map aj).length : Int)), (26, iV s1)] [(1, [.bx (dN p0)])]) 0 (nA p0)) fun j3 =>
 .p 4 <|.join true (ι := Unit) (fun j => ms 66 [] [])
 (.eb <|.loop (σ := Int) (fun s2 => ms 66 [(1, pV 1), (42, lV 2 ao p0.dirty), (43, iV ((p0.dirty.map ao).length : Int)), (44, iV s2)] [(1, [.bx (dN p0)])]) 0 (nB p0)) fun j5 =>
 .p 1 <|.ret true)
def vn (p0 : bp) : Option (Bool) := (CB p0).den
theorem Eb (p0 : bp) (v : Bool) (h : vn p0 = some v) : ab Tryz.prog 96 [.agg (sg p0)] (bV v) [] :=
 (CB p0).call aG Tryz.func96 rfl (res := (fun v => bV v)) (row := fun v => []) (by kernel_rfl) h
def tL (p0 : (List Int)) : Wk ((List Int) × Bool) :=
 .p 5 <|.ite ((((p0.map ae).length : Int) == 0))
 (.chk (0 <= (512 : Int) /\ (512 : Int).toNat * 1 <= 140737488355328) fun c1 =>
 .s (.make ae 0 c1) <|.p 2 <|.ret ((List.replicate (512 : Int).toNat 0, true)))
 (.p 2 <|.chk (((([] : List Int)).length + (p0).length) * 1 <= 140737488355328) fun c2 =>
 .s (.app ae .ro c2) <|.p 5 <|.ret ((p0, (((p0.map ae).length : Int) == 512))))
def wX (p0 : (List Int)) : Option ((List Int) × Bool) := (tL p0).den
theorem Ju (p0 : (List Int)) (v : (List Int) × Bool) (h : wX p0 = some v) : ab Tryz.prog 169 [lV 1 ae p0] (.tup [.one (.so [] 0 0 (((v.1).map ae).length)), .one (.c (bC v.2))]) [lC 1 ae v.1] :=
 (tL p0).call aG Tryz.func169 rfl (res := (fun v => .tup [.one (.so [] 0 0 (((v.1).map ae).length)), .one (.c (bC v.2))])) (row := (fun v => [lC 1 ae v.1])) (by kernel_rfl) h
def nC (p0 : bp) (p1 : Int) (s1 : Int) : Wk (Int ⊕ (Unit ⊕ ((List Int) × Bool))) :=
 .p 2 <|.ite (decide (s1 >= 0))
 (.eb <|.p 3 <|.bnd (aB p0.dirty s1) fun x1 ex1 =>
 .s (.idx ao ex1) <|.p 4 <|.ite ((x1.at_ == p1))
 (.p 4 <|.bnd (aB p0.dirty s1) fun x2 ex2 =>
 .s (.idx ao ex2) <|.p 2 <|.chk (((([] : List Int)).length + (x2.bytes).length) * 1 <= 140737488355328) fun c1 =>
 .s (.app ae .ro c1) <|.p 2 <|.ret (.inr (.inr ((x2.bytes, true)))))
 (.p 3 <|.ret (.inl (IntKind.wrap .i64 (s1 - 1)))))
 (.ret (.inr (.inl (()))))
def oX (p0 : bp) (p1 : Int) : Wk ((List Int) × Bool) :=
 .p 3 <|.jn false (ι := Bool) (fun j => ms 54 [(1, iV p1), (2, pV 2), (20, bV j)] [(2, [.bx (dN p0)])])
 (.p 1 <|.bnd (vn p0) fun r1 er1 =>
 .s (.call (Eb p0 r1 er1) Tryz.call96) <|.p 2 <|.cut 10 (!r1)
 (.p 10 <|.ret true)
 (.p 4 <|.cut 14 (decide (p1 < 0))
 (.p 6 <|.ret true)
 (.p 6 <|.ret (decide (p1 >= ((p0.sheets.map aj).length : Int)))))) fun j1 =>
 .ite (j1)
 (.p 2 <|.im (.Gv 4 4 1) <|.ret (([], false)))
 (.p 5 <|.join true (ι := Unit) (fun j => ms 54 [(1, iV p1), (2, pV 2)] [(2, [.bx (dN p0)])])
 (.eb <|.loop (σ := Int) (fun s1 => ms 54 [(1, iV p1), (2, pV 2), (6, iV s1)] [(2, [.bx (dN p0)])]) (IntKind.wrap .i64 (((p0.dirty.map ao).length : Int) - 1)) (nC p0 p1)) fun j2 =>
 .p 3 <|.bnd (aB p0.sheets p1) fun x3 ex3 =>
 .s (.idx aj ex3) <|.p 2 <|.bnd (wX x3.bytes) fun r2 er2 =>
 .s (.call (Ju x3.bytes r2 er2) Tryz.call169) <|.p 4 <|.ret ((r2.1, r2.2)))
def iz (p0 : bp) (p1 : Int) : Option ((List Int) × Bool) := (oX p0 p1).den
theorem yv (p0 : bp) (p1 : Int) (v : (List Int) × Bool) (h : iz p0 p1 = some v) : ab Tryz.prog 140 [.agg (sg p0), iV p1] (.tup [.one (.so [] 0 0 (((v.1).map ae).length)), .one (.c (bC v.2))]) [lC 1 ae v.1] :=
 (oX p0 p1).call aG Tryz.func140 rfl (res := (fun v => .tup [.one (.so [] 0 0 (((v.1).map ae).length)), .one (.c (bC v.2))])) (row := (fun v => [lC 1 ae v.1])) (by kernel_rfl) h
def CK (p0 : Int) : Wk (Bool) :=
 .p 1 <|.jn false (ι := Bool) (fun j => ms 9 [(2, bV j)] [])
 (.p 3 <|.cut 5 (decide (p0 >= 0))
 (.p 4 <|.ret (decide (p0 <= 1099511627775)))
 (.p 4 <|.ret false)) fun j1 =>
 .ret j1
def kg (p0 : Int) : Option (Bool) := (CK p0).den
theorem kt (p0 : Int) (v : Bool) (h : kg p0 = some v) : ab Tryz.prog 18 [iV p0] (bV v) [] :=
 (CK p0).call aG Tryz.func18 rfl (res := (fun v => bV v)) (row := fun v => []) (by kernel_rfl) h
def CD (p0 : Meta) : Wk (Bool) :=
 .p 2 <|.jn false (ι := Bool) (fun j => ms 26 [(2, bV j)] [])
 (.p 4 <|.cut 6 (decide (p0.gen >= 1))
 (.p 2 <|.bnd (kg p0.gen) fun r1 er1 =>
 .s (.call (kt p0.gen r1 er1) Tryz.call18) <|.p 2 <|.cut 11 (r1)
 (.p 4 <|.cut 15 ((p0.root == 0))
 (.p 11 <|.ret true)
 (.p 4 <|.cut 19 (decide (p0.root >= 2))
 (.p 7 <|.ret (decide (p0.root < 400)))
 (.p 7 <|.ret false)))
 (.p 15 <|.ret false))
 (.p 20 <|.ret false)) fun j1 =>
 .ret j1
def zq (p0 : Meta) : Option (Bool) := (CD p0).den
theorem PO (p0 : Meta) (v : Bool) (h : zq p0 = some v) : ab Tryz.prog 195 [.agg [.c (iC p0.gen), .c (iC p0.root)]] (bV v) [] :=
 (CD p0).call aG Tryz.func195 rfl (res := (fun v => bV v)) (row := fun v => []) (by kernel_rfl) h
structure jf where
 v3 : (List Int)
 v9 : Int
def lI (p0 : Int) (s1 : jf) : Wk (jf ⊕ (List Int)) :=
 .p 1 <|.ite (decide (s1.v9 < 5))
 (.eb <|.bnd (aB ([4294967296, 16777216, 65536, 256, 1]) s1.v9) fun x1 ex1 =>
 .s (.ixo ah ex1) <|.s (.ld ah (bO ex1).2) <|.p 4 <|.chk (((x1 : Int) ≠ 0)) fun c1 =>
 .s (.q c1) <|.p 3 <|.chk (((s1.v3).length + (([IntKind.wrap .u8 (Int.tmod (IntKind.wrap .i64 (Int.tdiv p0 x1)) 256)] : List Int)).length) * 1 <= 140737488355328) fun c2 =>
 .s (.app ae .lit c2) <|.p 3 <|.im (.ren 20 3 3) <|.ret (.inl ((⟨s1.v3 ++ ([IntKind.wrap .u8 (Int.tmod (IntKind.wrap .i64 (Int.tdiv p0 x1)) 256)] : List Int), IntKind.wrap .i64 (s1.v9 + 1)⟩ : jf))))
 (.ret (.inr s1.v3))
def xC (p0 : Int) : Wk ((List Int)) :=
 .p 6 <|.jn true (ι := (List Int)) (fun j => ms 23 [(3, .one (.so [] 3 0 (((j).map ae).length)))] [(3, [lC 1 ae j])])
 (.eb <|.im (.ren 6 3 3) <|.loop (σ := jf) (fun s1 => ms 23 [(0, iV p0), (3, .one (.so [] 3 0 (((s1.v3).map ae).length))), (7, .one (.so [] 7 0 5)), (8, iV 5), (9, iV s1.v9)] [(3, [lC 1 ae s1.v3]), (7, [.sl 1 ([[iC 4294967296], [iC 16777216], [iC 65536], [iC 256], [iC 1]])])]) ((⟨[], 0⟩ : jf)) (lI p0)) fun j1 =>
 .p 2 <|.ret j1
def qp (p0 : Int) : Option ((List Int)) := (xC p0).den
theorem Bd (p0 : Int) (v : (List Int)) (h : qp p0 = some v) : ab Tryz.prog 196 [iV p0] (.one (.so [] 0 0 (((v).map ae).length))) [lC 1 ae v] :=
 (xC p0).call aG Tryz.func196 rfl (res := (fun v => .one (.so [] 0 0 (((v).map ae).length)))) (row := (fun v => [lC 1 ae v])) (by kernel_rfl) h
def Nn (p0 : (List Int)) (p1 : Int) : Wk ((List Int) × Bool) :=
 .p 2 <|.jn false (ι := Bool) (fun j => ms 26 [(0, lV 1 ae p0), (1, iV p1), (17, bV j)] [])
 (.p 3 <|.cut 8 (decide (p1 < 0))
 (.p 9 <|.ret true)
 (.p 4 <|.cut 12 (decide (p1 > 4096))
 (.p 5 <|.ret true)
 (.p 5 <|.ret (decide (((p0.map ae).length : Int) > p1))))) fun j1 =>
 .ite (j1)
 (.p 2 <|.im (.Gv 4 4 1) <|.ret (([], false)))
 (.p 2 <|.chk (((([] : List Int)).length + (p0).length) * 1 <= 140737488355328) fun c1 =>
 .s (.app ae .ro c1) <|.p 4 <|.chk (0 <= (IntKind.wrap .i64 (p1 - ((p0.map ae).length : Int)) : Int) /\ (p0).length + (IntKind.wrap .i64 (p1 - ((p0.map ae).length : Int)) : Int).toNat <= 140737488355328) fun c2 =>
 .s (.ZI 9 c2) <|.p 2 <|.ret ((p0 ++ List.replicate (IntKind.wrap .i64 (p1 - ((p0.map ae).length : Int)) : Int).toNat 0, true)))
def Kk (p0 : (List Int)) (p1 : Int) : Option ((List Int) × Bool) := (Nn p0 p1).den
theorem NT (p0 : (List Int)) (p1 : Int) (v : (List Int) × Bool) (h : Kk p0 p1 = some v) : ab Tryz.prog 197 [lV 1 ae p0, iV p1] (.tup [.one (.so [] 0 0 (((v.1).map ae).length)), .one (.c (bC v.2))]) [lC 1 ae v.1] :=
 (Nn p0 p1).call aG Tryz.func197 rfl (res := (fun v => .tup [.one (.so [] 0 0 (((v.1).map ae).length)), .one (.c (bC v.2))])) (row := (fun v => [lC 1 ae v.1])) (by kernel_rfl) h
def qS (p0 : Meta) : Wk ((List Int) × Bool) :=
 .p 4 <|.bnd (zq p0) fun r1 er1 =>
 .s (.call (PO p0 r1 er1) Tryz.call195) <|.p 1 <|.ite (!r1)
 (.p 2 <|.im (.Gv 2 2 1) <|.ret (([], false)))
 (.p 3 <|.bnd (qp p0.gen) fun r2 er2 =>
 .s (.call (Bd p0.gen r2 er2) Tryz.call196) <|.chk (((([77] : List Int)).length + (r2).length) * 1 <= 140737488355328) fun c1 =>
 .s (.app ae .own c1) <|.p 11 <|.chk (((([77] : List Int) ++ r2).length + (([IntKind.wrap .u8 (IntKind.wrap .i64 (Int.tdiv p0.root 256)), IntKind.wrap .u8 (Int.tmod p0.root 256)] : List Int)).length) * 1 <= 140737488355328) fun c2 =>
 .s (.app ae .lit c2) <|.p 2 <|.bnd (Kk (([77] : List Int) ++ r2 ++ ([IntKind.wrap .u8 (IntKind.wrap .i64 (Int.tdiv p0.root 256)), IntKind.wrap .u8 (Int.tmod p0.root 256)] : List Int)) 507) fun r3 er3 =>
 .s (.ma (NT (([77] : List Int) ++ r2 ++ ([IntKind.wrap .u8 (IntKind.wrap .i64 (Int.tdiv p0.root 256)), IntKind.wrap .u8 (Int.tmod p0.root 256)] : List Int)) 507 r3 er3) Tryz.call197 (aN (ba gL _) (aw))) <|.p 7 <|.bnd (qp p0.gen) fun r4 er4 =>
 .s (.call (Bd p0.gen r4 er4) Tryz.call196) <|.chk (((r3.1).length + (r4).length) * 1 <= 140737488355328) fun c3 =>
 .s (.app ae .own c3) <|.p 2 <|.ret ((r3.1 ++ r4, true)))
def oK (p0 : Meta) : Option ((List Int) × Bool) := (qS p0).den
theorem Ga (p0 : Meta) (v : (List Int) × Bool) (h : oK p0 = some v) : ab Tryz.prog 170 [.agg [.c (iC p0.gen), .c (iC p0.root)]] (.tup [.one (.so [] 0 0 (((v.1).map ae).length)), .one (.c (bC v.2))]) [lC 1 ae v.1] :=
 (qS p0).call aG Tryz.func170 rfl (res := (fun v => .tup [.one (.so [] 0 0 (((v.1).map ae).length)), .one (.c (bC v.2))])) (row := (fun v => [lC 1 ae v.1])) (by kernel_rfl) h
def kz (p0 : (List Int)) (p1 : (List Int)) : Wk (Bool) :=
 .p 2 <|.chk (∀ n ∈ (p0 : List Int), 0 <= n /\ n < 256) fun c1 =>
 .s (.str c1) <|.p 1 <|.chk (∀ n ∈ (p1 : List Int), 0 <= n /\ n < 256) fun c2 =>
 .s (.str c2) <|.p 2 <|.ret (((strOfNums p0).toList == (strOfNums p1).toList))
def jw (p0 : (List Int)) (p1 : (List Int)) : Option (Bool) := (kz p0 p1).den
theorem Be (p0 : (List Int)) (p1 : (List Int)) (v : Bool) (h : jw p0 p1 = some v) : ab Tryz.prog 171 [lV 1 ae p0, lV 1 ae p1] (bV v) [] :=
 (kz p0 p1).call aG Tryz.func171 rfl (res := (fun v => bV v)) (row := fun v => []) (by kernel_rfl) h
structure gF where
 v5 : Int
 aM : Int
def gq (p0 : (List Int)) (s1 : gF) : Wk (gF ⊕ Int) :=
 .p 2 <|.ite (decide (s1.v5 < 6))
 (.eb <|.bnd (aB p0 s1.v5) fun x1 ex1 =>
 .drawn [10] [(5, .idx ae ex1)] (ms 53 [(0, lV 1 ae p0), (2, pV 2), (4, pV 4), (5, iV s1.v5)] [(2, [.bx [iC 0, iC 0]]), (4, [.bx [iC (IntKind.wrap .i64 ((IntKind.wrap .i64 (s1.aM * 256)) + (IntKind.wrap .i64 x1))), iC 0]])]) <|.p 3 <|.ret (.inl ((⟨IntKind.wrap .i64 (s1.v5 + 1), IntKind.wrap .i64 ((IntKind.wrap .i64 (s1.aM * 256)) + (IntKind.wrap .i64 x1))⟩ : gF))))
 (.ret (.inr s1.aM))
def tI (p0 : (List Int)) : Wk (Meta × Bool) :=
 .p 8 <|.ite ((((p0.map ae).length : Int) != 512))
 (.p 3 <|.ret (((⟨0, 0⟩ : Meta), false)))
 (.p 1 <|.jn true (ι := Int) (fun j => ms 53 [(0, lV 1 ae p0), (2, pV 2), (4, pV 4)] [(2, [.bx [iC 0, iC 0]]), (4, [.bx [iC j, iC 0]])])
 (.eb <|.loop (σ := gF) (fun s1 => ms 53 [(0, lV 1 ae p0), (2, pV 2), (4, pV 4), (5, iV s1.v5)] [(2, [.bx [iC 0, iC 0]]), (4, [.bx [iC s1.aM, iC 0]])]) ((⟨1, 0⟩ : gF)) (gq p0)) fun j1 =>
 .bnd (aB p0 6) fun x2 ex2 =>
 .bnd (aB p0 7) fun x3 ex3 =>
 .drawn [11] [(1, .idx ae ex2), (6, .idx ae ex3)] (ms 53 [(0, lV 1 ae p0), (2, pV 2), (4, pV 4)] [(2, [.bx [iC 0, iC 0]]), (4, [.bx [iC j1, iC (IntKind.wrap .i64 ((IntKind.wrap .i64 ((IntKind.wrap .i64 x2) * 256)) + (IntKind.wrap .i64 x3)))]])]) <|.p 1 <|.bnd (oK ((⟨j1, IntKind.wrap .i64 ((IntKind.wrap .i64 ((IntKind.wrap .i64 x2) * 256)) + (IntKind.wrap .i64 x3))⟩ : Meta))) fun r1 er1 =>
 .s (.call (Ga ((⟨j1, IntKind.wrap .i64 ((IntKind.wrap .i64 ((IntKind.wrap .i64 x2) * 256)) + (IntKind.wrap .i64 x3))⟩ : Meta)) r1 er1) Tryz.call170) <|.p 5 <|.jn false (ι := Bool) (fun j => ms 53 [(2, pV 2), (4, pV 4), (50, bV j)] [(2, [.bx [iC 0, iC 0]]), (4, [.bx [iC j1, iC (IntKind.wrap .i64 ((IntKind.wrap .i64 ((IntKind.wrap .i64 x2) * 256)) + (IntKind.wrap .i64 x3)))]])])
 (.p 3 <|.cut 45 (!r1.2)
 (.p 5 <|.ret true)
 (.p 2 <|.bnd (jw r1.1 p0) fun r2 er2 =>
 .s (.ma (Be r1.1 p0 r2 er2) Tryz.call171 (aw)) <|.p 2 <|.ret (!r2))) fun j2 =>
 .ite (j2)
 (.p 3 <|.ret (((⟨0, 0⟩ : Meta), false)))
 (.p 3 <|.ret (((⟨j1, IntKind.wrap .i64 ((IntKind.wrap .i64 ((IntKind.wrap .i64 x2) * 256)) + (IntKind.wrap .i64 x3))⟩ : Meta), true))))
def rI (p0 : (List Int)) : Option (Meta × Bool) := (tI p0).den
theorem Jq (p0 : (List Int)) (v : Meta × Bool) (h : rI p0 = some v) : ab Tryz.prog 141 [lV 1 ae p0] (.tup [.agg [.c (iC v.1.gen), .c (iC v.1.root)], .one (.c (bC v.2))]) [] :=
 (tI p0).call aG Tryz.func141 rfl (res := (fun v => .tup [.agg [.c (iC v.1.gen), .c (iC v.1.root)], .one (.c (bC v.2))])) (row := fun v => []) (by kernel_rfl) h
structure nX where
 aM : Int
 bn : Int
structure gC where
 v5 : Int
 aM : Int
 bn : Int
structure nY where
 aM : Int
 bn : Int
def gp (p0 : bp) (s1 : gC) : Wk (gC ⊕ nX) :=
 .p 2 <|.ite (decide (s1.v5 < 2))
 (.eb <|.p 2 <|.bnd (iz p0 s1.v5) fun r1 er1 =>
 .s (.call (yv p0 s1.v5 r1 er1) Tryz.call140) <|.p 6 <|.bnd (rI r1.1) fun r2 er2 =>
 .s (.ma (Jq r1.1 r2 er2) Tryz.call141 (aw)) <|.p 6 <|.jn false (ι := Bool) (fun j => ms 49 [(1, pV 1), (2, pV 2), (4, pV 4), (5, iV s1.v5), (8, pV 8), (43, bV j)] [(1, [.bx (dN p0)]), (2, [.bx [iC 0, iC 0]]), (4, [.bx [iC s1.aM, iC s1.bn]]), (8, [.bx [iC r2.1.gen, iC r2.1.root]])])
 (.p 2 <|.cut 27 (r1.2)
 (.p 3 <|.cut 30 (r2.2)
 (.p 7 <|.cut 37 (((Int.tmod r2.1.gen 2) == s1.v5))
 (.p 6 <|.ret (decide (r2.1.gen > s1.aM)))
 (.p 6 <|.ret false))
 (.p 13 <|.ret false))
 (.p 16 <|.ret false)) fun j1 =>
 .jn false (ι := nY) (fun j => ms 49 [(1, pV 1), (2, pV 2), (4, pV 4), (5, iV s1.v5)] [(1, [.bx (dN p0)]), (2, [.bx [iC 0, iC 0]]), (4, [.bx [iC j.aM, iC j.bn]])])
 (.ite (j1)
 (.p 2 <|.ret ((⟨r2.1.gen, r2.1.root⟩ : nY)))
 (.ret ((⟨s1.aM, s1.bn⟩ : nY)))) fun j2 =>
 .p 3 <|.ret (.inl ((⟨IntKind.wrap .i64 (s1.v5 + 1), j2.aM, j2.bn⟩ : gC))))
 (.ret (.inr ((⟨s1.aM, s1.bn⟩ : nX))))
def tH (p0 : bp) : Wk (Meta × Bool) :=
 .p 7 <|.jn true (ι := nX) (fun j => ms 49 [(2, pV 2), (4, pV 4)] [(2, [.bx [iC 0, iC 0]]), (4, [.bx [iC j.aM, iC j.bn]])])
 (.eb <|.loop (σ := gC) (fun s1 => ms 49 [(1, pV 1), (2, pV 2), (4, pV 4), (5, iV s1.v5)] [(1, [.bx (dN p0)]), (2, [.bx [iC 0, iC 0]]), (4, [.bx [iC s1.aM, iC s1.bn]])]) ((⟨0, 0, 0⟩ : gC)) (gp p0)) fun j3 =>
 .drawn [4] [] (ms 49 [(2, pV 2), (3, bV (decide (j3.aM > 0)))] [(2, [.bx [iC j3.aM, iC j3.bn]])]) <|.ret (((⟨j3.aM, j3.bn⟩ : Meta), decide (j3.aM > 0)))
def rG (p0 : bp) : Option (Meta × Bool) := (tH p0).den
theorem Jp (p0 : bp) (v : Meta × Bool) (h : rG p0 = some v) : ab Tryz.prog 97 [.agg (sg p0)] (.tup [.agg [.c (iC v.1.gen), .c (iC v.1.root)], .one (.c (bC v.2))]) [] :=
 (tH p0).call aG Tryz.func97 rfl (res := (fun v => .tup [.agg [.c (iC v.1.gen), .c (iC v.1.root)], .one (.c (bC v.2))])) (row := fun v => []) (by kernel_rfl) h
structure fQ where
 v12 : Int
 nj : (List bb)
def lJ (p0 : bp) (s1 : fQ) : Wk (fQ ⊕ (List bb)) :=
 .p 1 <|.ite (decide (s1.v12 < ((p0.sheets.map aj).length : Int)))
 (.eb <|.bnd (aB p0.sheets s1.v12) fun x1 ex1 =>
 .s (.idx aj ex1) <|.p 3 <|.chk (((([] : List Int)).length + (x1.bytes).length) * 1 <= 140737488355328) fun c1 =>
 .chk (((s1.nj).length + 1) * 24 <= 140737488355328) fun c2 =>
 .drawn [5, 7, 8, 10] [(5, .app ae .ro c1), (7, .ob), (8, .YL aj (xs := s1.nj) x1 0 c2), (10, .o)] (ms 48 [(1, pV 1), (2, pV 2), (3, pV 3), (10, lV 1 aj p0.sheets), (11, iV ((p0.sheets.map aj).length : Int)), (12, iV s1.v12)] [(1, [.bx (dN p0)]), (2, [.bx [.sl 1 ([]), .sl 2 ([])]]), (3, [.bx [lC 1 aj (s1.nj ++ [x1]), .sl 2 ([])]])]) <|.p 2 <|.ret (.inl ((⟨IntKind.wrap .i64 (s1.v12 + 1), s1.nj ++ [x1]⟩ : fQ))))
 (.ret (.inr s1.nj))
structure fR where
 v30 : Int
 nk : (List bc)
def lK (p0 : bp) (j1 : (List bb)) (s2 : fR) : Wk (fR ⊕ (List bc)) :=
 .p 1 <|.ite (decide (s2.v30 < ((p0.dirty.map ao).length : Int)))
 (.eb <|.bnd (aB p0.dirty s2.v30) fun x2 ex2 =>
 .s (.idx ao ex2) <|.p 3 <|.chk (((([] : List Int)).length + (x2.bytes).length) * 1 <= 140737488355328) fun c3 =>
 .chk (((s2.nk).length + 1) * 32 <= 140737488355328) fun c4 =>
 .drawn [7, 9, 10, 12] [(7, .app ae .ro c3), (9, .ob), (10, .YL ao (xs := s2.nk) x2 1 c4), (12, .o)] (ms 48 [(2, pV 2), (3, pV 3), (28, lV 2 ao p0.dirty), (29, iV ((p0.dirty.map ao).length : Int)), (30, iV s2.v30)] [(2, [.bx [.sl 1 ([]), .sl 2 ([])]]), (3, [.bx [lC 1 aj j1, lC 2 ao (s2.nk ++ [x2])]])]) <|.p 2 <|.ret (.inl ((⟨IntKind.wrap .i64 (s2.v30 + 1), s2.nk ++ [x2]⟩ : fR))))
 (.ret (.inr s2.nk))
def xD (p0 : bp) : Wk (bp) :=
 .p 9 <|.jn true (ι := (List bb)) (fun j => ms 48 [(1, pV 1), (2, pV 2), (3, pV 3)] [(1, [.bx (dN p0)]), (2, [.bx [.sl 1 ([]), .sl 2 ([])]]), (3, [.bx [lC 1 aj j, .sl 2 ([])]])])
 (.eb <|.loop (σ := fQ) (fun s1 => ms 48 [(1, pV 1), (2, pV 2), (3, pV 3), (10, lV 1 aj p0.sheets), (11, iV ((p0.sheets.map aj).length : Int)), (12, iV s1.v12)] [(1, [.bx (dN p0)]), (2, [.bx [.sl 1 ([]), .sl 2 ([])]]), (3, [.bx [lC 1 aj s1.nj, .sl 2 ([])]])]) ((⟨0, ([] : List bb)⟩ : fQ)) (lJ p0)) fun j1 =>
 .p 4 <|.jn true (ι := (List bc)) (fun j => ms 48 [(2, pV 2), (3, pV 3)] [(2, [.bx [.sl 1 ([]), .sl 2 ([])]]), (3, [.bx [lC 1 aj j1, lC 2 ao j]])])
 (.eb <|.loop (σ := fR) (fun s2 => ms 48 [(2, pV 2), (3, pV 3), (28, lV 2 ao p0.dirty), (29, iV ((p0.dirty.map ao).length : Int)), (30, iV s2.v30)] [(2, [.bx [.sl 1 ([]), .sl 2 ([])]]), (3, [.bx [lC 1 aj j1, lC 2 ao s2.nk]])]) ((⟨0, ([] : List bc)⟩ : fR)) (lK p0 j1)) fun j2 =>
 .p 1 <|.s (.o) <|.ret ((⟨j1, j2⟩ : bp))
def vw (p0 : bp) : Option (bp) := (xD p0).den
theorem LZ (p0 : bp) (v : bp) (h : vw p0 = some v) : ab Tryz.prog 98 [.agg (sg p0)] (.agg [.so [] 0 0 (((v.sheets).map aj).length), .so [] 0 1 (((v.dirty).map ao).length)]) (gZ v) :=
 (xD p0).call aG Tryz.func98 rfl (res := (fun v => .agg [.so [] 0 0 (((v.sheets).map aj).length), .so [] 0 1 (((v.dirty).map ao).length)])) (row := (fun v => (gZ v))) (by kernel_rfl) h
structure kH where
 v1 : Int
 v6 : (List Int)
structure hY where
 v1 : Int
 v6 : (List Int)
def nH (s1 : hY) : Wk (hY ⊕ kH) :=
 .p 2 <|.ite (decide (s1.v1 >= 128))
 (.eb <|.p 6 <|.chk (((s1.v6).length + (([IntKind.wrap .u8 (IntKind.wrap .i64 (128 + (Int.tmod s1.v1 128)))] : List Int)).length) * 1 <= 140737488355328) fun c2 =>
 .s (.app ae .lit c2) <|.p 4 <|.im (.ren 21 6 6) <|.ret (.inl ((⟨IntKind.wrap .i64 (Int.tdiv s1.v1 128), s1.v6 ++ ([IntKind.wrap .u8 (IntKind.wrap .i64 (128 + (Int.tmod s1.v1 128)))] : List Int)⟩ : hY))))
 (.ret (.inr ((⟨s1.v1, s1.v6⟩ : kH))))
def CF (p0 : (List Int)) (p1 : Int) : Wk ((List Int) × Bool) :=
 .p 3 <|.bnd (kg p1) fun r1 er1 =>
 .s (.call (kt p1 r1 er1) Tryz.call18) <|.p 1 <|.ite (!r1)
 (.p 2 <|.im (.Gv 4 4 1) <|.ret (([], false)))
 (.p 2 <|.chk (((([] : List Int)).length + (p0).length) * 1 <= 140737488355328) fun c1 =>
 .s (.app ae .ro c1) <|.p 1 <|.jn true (ι := kH) (fun j => ms 33 [(1, iV j.v1), (6, .one (.so [] 6 0 (((j.v6).map ae).length)))] [(6, [lC 1 ae j.v6])])
 (.eb <|.im (.ren 12 6 6) <|.loop (σ := hY) (fun s1 => ms 33 [(1, iV s1.v1), (6, .one (.so [] 6 0 (((s1.v6).map ae).length)))] [(6, [lC 1 ae s1.v6])]) ((⟨p1, p0⟩ : hY)) (nH)) fun j1 =>
 .p 4 <|.chk (((j1.v6).length + (([IntKind.wrap .u8 j1.v1] : List Int)).length) * 1 <= 140737488355328) fun c3 =>
 .s (.app ae .lit c3) <|.p 4 <|.ite (decide ((((((j1.v6 ++ ([IntKind.wrap .u8 j1.v1] : List Int)).map ae).length : Nat) : Int)) > 4096))
 (.p 2 <|.im (.Gv 4 4 1) <|.ret (([], false)))
 (.p 3 <|.ret ((j1.v6 ++ ([IntKind.wrap .u8 j1.v1] : List Int), true))))
def mi (p0 : (List Int)) (p1 : Int) : Option ((List Int) × Bool) := (CF p0 p1).den
theorem mX (p0 : (List Int)) (p1 : Int) (v : (List Int) × Bool) (h : mi p0 p1 = some v) : ab Tryz.prog 198 [lV 1 ae p0, iV p1] (.tup [.one (.so [] 0 0 (((v.1).map ae).length)), .one (.c (bC v.2))]) [lC 1 ae v.1] :=
 (CF p0 p1).call aG Tryz.func198 rfl (res := (fun v => .tup [.one (.so [] 0 0 (((v.1).map ae).length)), .one (.c (bC v.2))])) (row := (fun v => [lC 1 ae v.1])) (by kernel_rfl) h
structure kE where
 v6 : Int
 v7 : Int
 v8 : Int
def nD (p0 : (List Int)) (p1 : Int) (s1 : kE) : Wk (kE ⊕ (Unit ⊕ (Int × Int))) :=
 .jn false (ι := Bool) (fun j => ms 68 [(0, lV 1 ae p0), (1, iV p1), (6, iV s1.v6), (7, iV s1.v7), (8, iV s1.v8), (29, bV j)] [])
 (.p 5 <|.cut 24 (decide (s1.v8 < ((p0.map ae).length : Int)))
 (.p 5 <|.ret (decide (s1.v8 < (IntKind.wrap .i64 (p1 + 6)))))
 (.p 5 <|.ret false)) fun j2 =>
 .ite (j2)
 (.eb <|.p 3 <|.bnd (aB p0 s1.v8) fun x1 ex1 =>
 .s (.idx ae ex1) <|.p 9 <|.bnd (aB p0 s1.v8) fun x2 ex2 =>
 .s (.idx ae ex2) <|.p 2 <|.ite (decide (x2 >= 128))
 (.p 6 <|.ret (.inl ((⟨IntKind.wrap .i64 (s1.v6 + (IntKind.wrap .i64 ((Int.tmod (IntKind.wrap .i64 x1) 128) * s1.v7))), IntKind.wrap .i64 (s1.v7 * 128), IntKind.wrap .i64 (s1.v8 + 1)⟩ : kE))))
 (.p 1 <|.bnd (mi ([]) (IntKind.wrap .i64 (s1.v6 + (IntKind.wrap .i64 ((Int.tmod (IntKind.wrap .i64 x1) 128) * s1.v7))))) fun r1 er1 =>
 .s (.ma (mX ([]) (IntKind.wrap .i64 (s1.v6 + (IntKind.wrap .i64 ((Int.tmod (IntKind.wrap .i64 x1) 128) * s1.v7)))) r1 er1) Tryz.call198 (aN (ba gL _) (aw))) <|.p 5 <|.jn false (ι := Bool) (fun j => ms 68 [(6, iV (IntKind.wrap .i64 (s1.v6 + (IntKind.wrap .i64 ((Int.tmod (IntKind.wrap .i64 x1) 128) * s1.v7))))), (8, iV s1.v8), (64, bV j)] [])
 (.p 3 <|.cut 56 (!r1.2)
 (.p 8 <|.ret true)
 (.p 8 <|.ret ((((r1.1.map ae).length : Int) != (IntKind.wrap .i64 ((IntKind.wrap .i64 (s1.v8 + 1)) - p1)))))) fun j3 =>
 .ite (j3)
 (.p 2 <|.ret (.inr (.inr ((0, -1)))))
 (.p 5 <|.ret (.inr (.inr ((IntKind.wrap .i64 (s1.v6 + (IntKind.wrap .i64 ((Int.tmod (IntKind.wrap .i64 x1) 128) * s1.v7))), IntKind.wrap .i64 (s1.v8 + 1))))))))
 (.ret (.inr (.inl (()))))
def CC (p0 : (List Int)) (p1 : Int) : Wk (Int × Int) :=
 .p 2 <|.jn false (ι := Bool) (fun j => ms 68 [(0, lV 1 ae p0), (1, iV p1), (18, bV j)] [])
 (.p 3 <|.cut 13 (decide (p1 < 0))
 (.p 5 <|.ret true)
 (.p 5 <|.ret (decide (p1 >= ((p0.map ae).length : Int))))) fun j1 =>
 .ite (j1)
 (.p 2 <|.ret ((0, -1)))
 (.p 4 <|.join true (ι := Unit) (fun j => ms 68 [] [])
 (.eb <|.loop (σ := kE) (fun s1 => ms 68 [(0, lV 1 ae p0), (1, iV p1), (6, iV s1.v6), (7, iV s1.v7), (8, iV s1.v8)] []) ((⟨0, 1, p1⟩ : kE)) (nD p0 p1)) fun j4 =>
 .p 2 <|.ret ((0, -1)))
def oJ (p0 : (List Int)) (p1 : Int) : Option (Int × Int) := (CC p0 p1).den
theorem ru (p0 : (List Int)) (p1 : Int) (v : Int × Int) (h : oJ p0 p1 = some v) : ab Tryz.prog 172 [lV 1 ae p0, iV p1] (.tup [.one (.c (iC v.1)), .one (.c (iC v.2))]) [] :=
 (CC p0 p1).call aG Tryz.func172 rfl (res := (fun v => .tup [.one (.c (iC v.1)), .one (.c (iC v.2))])) (row := fun v => []) (by kernel_rfl) h
def xv (p0 : (List Int)) (p1 : Int) : Wk (ByteArray × Int) :=
 .p 4 <|.bnd (oJ p0 p1) fun r1 er1 =>
 .s (.call (ru p0 p1 r1 er1) Tryz.call172) <|.p 5 <|.jn false (ι := Bool) (fun j => ms 34 [(0, lV 1 ae p0), (6, iV r1.1), (7, iV r1.2), (23, bV j)] [])
 (.p 3 <|.cut 16 (decide (r1.2 < 0))
 (.p 7 <|.ret true)
 (.p 7 <|.ret (decide (r1.1 > (IntKind.wrap .i64 (((p0.map ae).length : Int) - r1.2)))))) fun j1 =>
 .ite (j1)
 (.p 2 <|.ret (((⟨#[]⟩ : ByteArray), -1)))
 (.p 5 <|.chk (0 <= (r1.2 : Int) /\ (r1.2 : Int) <= (IntKind.wrap .i64 (r1.2 + r1.1)) /\ (IntKind.wrap .i64 (r1.2 + r1.1)) <= ((p0).length : Int)) fun c1 =>
 .s (.YQ ae p0 c1) <|.chk (∀ n ∈ ((((p0).take ((IntKind.wrap .i64 (r1.2 + r1.1)).toNat)).drop ((r1.2).toNat)) : List Int), 0 <= n /\ n < 256) fun c2 =>
 .s (.str c2) <|.p 5 <|.ret ((strOfNums ((((p0).take ((IntKind.wrap .i64 (r1.2 + r1.1)).toNat)).drop ((r1.2).toNat))), IntKind.wrap .i64 (r1.2 + r1.1))))
def qj (p0 : (List Int)) (p1 : Int) : Option (ByteArray × Int) := (xv p0 p1).den
theorem AZ (p0 : (List Int)) (p1 : Int) (v : ByteArray × Int) (h : qj p0 p1 = some v) : ab Tryz.prog 173 [lV 1 ae p0, iV p1] (.tup [.one (.c (sC v.1)), .one (.c (iC v.2))]) [] :=
 (xv p0 p1).call aG Tryz.func173 rfl (res := (fun v => .tup [.one (.c (sC v.1)), .one (.c (iC v.2))])) (row := fun v => []) (by kernel_rfl) h
def HG (p0 : ByteArray) : Wk (Bool) :=
 .p 5 <|.ret (decide (((p0.size : Int)) <= 60))
def BV (p0 : ByteArray) : Option (Bool) := (HG p0).den
theorem uQ (p0 : ByteArray) (v : Bool) (h : BV p0 = some v) : ab Tryz.prog 175 [sV p0] (bV v) [] :=
 (HG p0).call aG Tryz.func175 rfl (res := (fun v => bV v)) (row := fun v => []) (by kernel_rfl) h
def nE (p0 : ch) (s1 : Int) : Wk (Int ⊕ (Unit ⊕ (Bool))) :=
 .p 1 <|.ite (decide (s1 < ((p0.keys.map aq).length : Int)))
 (.eb <|.p 1 <|.bnd (aB p0.keys s1) fun x1 ex1 =>
 .s (.idx aq ex1) <|.p 3 <|.jn false (ι := Bool) (fun j => ms 109 [(1, pV 1), (10, lV 1 aq p0.keys), (11, iV ((p0.keys.map aq).length : Int)), (12, iV s1), (33, bV j)] [(1, [.bx [.fz (lC 1 aq p0.keys), .fz (lC 1 aq p0.vals), .fz (lC 1 ah p0.kids)]])])
 (.p 1 <|.bnd (tp x1) fun r1 er1 =>
 .s (.call (kV x1 r1 er1) Tryz.call63) <|.p 2 <|.cut 20 (!r1)
 (.p 13 <|.ret true)
 (.p 3 <|.cut 23 (decide (s1 > 0))
 (.p 4 <|.bnd (aB p0.keys (IntKind.wrap .i64 (s1 - 1))) fun x2 ex2 =>
 .s (.idx aq ex2) <|.p 5 <|.ret (!Op.bytesLess x2.toList x1.toList))
 (.p 10 <|.ret false))) fun j1 =>
 .ite (j1)
 (.p 1 <|.ret (.inr (.inr false)))
 (.p 2 <|.ret (.inl (IntKind.wrap .i64 (s1 + 1)))))
 (.ret (.inr (.inl (()))))
def nF (p0 : ch) (s2 : Int) : Wk (Int ⊕ (Unit ⊕ (Bool))) :=
 .p 1 <|.ite (decide (s2 < ((p0.vals.map aq).length : Int)))
 (.eb <|.bnd (aB p0.vals s2) fun x2 ex2 =>
 .s (.idx aq ex2) <|.p 3 <|.bnd (BV x2) fun r2 er2 =>
 .s (.call (uQ x2 r2 er2) Tryz.call175) <|.p 1 <|.ite (!r2)
 (.p 1 <|.ret (.inr (.inr false)))
 (.p 2 <|.ret (.inl (IntKind.wrap .i64 (s2 + 1)))))
 (.ret (.inr (.inl (()))))
def nG (p0 : ch) (s3 : Int) : Wk (Int ⊕ (Unit ⊕ (Bool))) :=
 .p 1 <|.ite (decide (s3 < ((p0.kids.map ah).length : Int)))
 (.eb <|.bnd (aB p0.kids s3) fun x3 ex3 =>
 .s (.idx ah ex3) <|.p 2 <|.jn false (ι := Bool) (fun j => ms 109 [(1, pV 1), (70, lV 1 ah p0.kids), (71, iV ((p0.kids.map ah).length : Int)), (72, iV s3), (81, bV j)] [(1, [.bx [.fz (lC 1 aq p0.keys), .fz (lC 1 aq p0.vals), .fz (lC 1 ah p0.kids)]])])
 (.p 3 <|.cut 78 (decide (x3 < 2))
 (.p 3 <|.ret true)
 (.p 3 <|.ret (decide (x3 >= 400)))) fun j5 =>
 .ite (j5)
 (.p 1 <|.ret (.inr (.inr false)))
 (.p 2 <|.ret (.inl (IntKind.wrap .i64 (s3 + 1)))))
 (.ret (.inr (.inl (()))))
def CE (p0 : ch) : Wk (Bool) :=
 .p 6 <|.join true (ι := Unit) (fun j => ms 109 [(1, pV 1)] [(1, [.bx [.fz (lC 1 aq p0.keys), .fz (lC 1 aq p0.vals), .fz (lC 1 ah p0.kids)]])])
 (.eb <|.loop (σ := Int) (fun s1 => ms 109 [(1, pV 1), (10, lV 1 aq p0.keys), (11, iV ((p0.keys.map aq).length : Int)), (12, iV s1)] [(1, [.bx [.fz (lC 1 aq p0.keys), .fz (lC 1 aq p0.vals), .fz (lC 1 ah p0.kids)]])]) 0 (nE p0)) fun j2 =>
 .p 4 <|.ite ((((p0.kids.map ah).length : Int) == 0))
 (.p 4 <|.join true (ι := Unit) (fun j => ms 109 [(1, pV 1)] [(1, [.bx [.fz (lC 1 aq p0.keys), .fz (lC 1 aq p0.vals), .fz (lC 1 ah p0.kids)]])])
 (.eb <|.loop (σ := Int) (fun s2 => ms 109 [(1, pV 1), (40, lV 1 aq p0.vals), (41, iV ((p0.vals.map aq).length : Int)), (42, iV s2)] [(1, [.bx [.fz (lC 1 aq p0.keys), .fz (lC 1 aq p0.vals), .fz (lC 1 ah p0.kids)]])]) 0 (nF p0)) fun j3 =>
 .jn false (ι := Bool) (fun j => ms 109 [(2, bV j)] [])
 (.p 5 <|.cut 54 (decide (((p0.keys.map aq).length : Int) >= 1))
 (.p 6 <|.cut 60 (decide (((p0.keys.map aq).length : Int) <= 4))
 (.p 9 <|.ret ((((p0.vals.map aq).length : Int) == ((p0.keys.map aq).length : Int))))
 (.p 9 <|.ret false))
 (.p 15 <|.ret false)) fun j4 =>
 .ret j4)
 (.p 4 <|.join true (ι := Unit) (fun j => ms 109 [(1, pV 1)] [(1, [.bx [.fz (lC 1 aq p0.keys), .fz (lC 1 aq p0.vals), .fz (lC 1 ah p0.kids)]])])
 (.eb <|.loop (σ := Int) (fun s3 => ms 109 [(1, pV 1), (70, lV 1 ah p0.kids), (71, iV ((p0.kids.map ah).length : Int)), (72, iV s3)] [(1, [.bx [.fz (lC 1 aq p0.keys), .fz (lC 1 aq p0.vals), .fz (lC 1 ah p0.kids)]])]) 0 (nG p0)) fun j6 =>
 .jn false (ι := Bool) (fun j => ms 109 [(2, bV j)] [])
 (.p 5 <|.cut 87 (decide (((p0.kids.map ah).length : Int) >= 2))
 (.p 6 <|.cut 93 (decide (((p0.kids.map ah).length : Int) <= 4))
 (.p 10 <|.cut 103 ((((p0.keys.map aq).length : Int) == (IntKind.wrap .i64 (((p0.kids.map ah).length : Int) - 1))))
 (.p 6 <|.ret ((((p0.vals.map aq).length : Int) == 0)))
 (.p 6 <|.ret false))
 (.p 16 <|.ret false))
 (.p 22 <|.ret false)) fun j7 =>
 .ret j7)
def zr (p0 : ch) : Option (Bool) := (CE p0).den
theorem PQ (p0 : ch) (v : Bool) (h : zr p0 = some v) : ab Tryz.prog 199 [.agg [.c (lC 1 aq p0.keys), .c (lC 1 aq p0.vals), .c (lC 1 ah p0.kids)]] (bV v) [] :=
 (CE p0).call aG Tryz.func199 rfl (res := (fun v => bV v)) (row := fun v => []) (by kernel_rfl) h
def xx (p0 : (List Int)) (p1 : ByteArray) : Wk ((List Int) × Bool) :=
 .p 5 <|.bnd (mi p0 ((p1.size : Int))) fun r1 er1 =>
 .s (.call (mX p0 ((p1.size : Int)) r1 er1) Tryz.call198) <|.p 5 <|.jn false (ι := Bool) (fun j => ms 29 [(1, sV p1), (6, .one (.so [] 12 0 (((r1.1).map ae).length))), (24, bV j)] [(12, [lC 1 ae r1.1])])
 (.p 3 <|.cut 17 (!r1.2)
 (.p 7 <|.ret true)
 (.p 7 <|.ret (decide (((p1.size : Int)) > (IntKind.wrap .i64 (4096 - ((r1.1.map ae).length : Int))))))) fun j1 =>
 .ite (j1)
 (.p 2 <|.im (.Gv 4 4 1) <|.ret (([], false)))
 (.p 2 <|.chk ((p1).size <= 140737488355328) fun c1 =>
 .s (.cvb c1) <|.chk (((r1.1).length + (bN p1).length) * 1 <= 140737488355328) fun c2 =>
 .s (.app ae .own c2) <|.p 2 <|.ret ((r1.1 ++ bN p1, true)))
def ql (p0 : (List Int)) (p1 : ByteArray) : Option ((List Int) × Bool) := (xx p0 p1).den
theorem Ba (p0 : (List Int)) (p1 : ByteArray) (v : (List Int) × Bool) (h : ql p0 p1 = some v) : ab Tryz.prog 200 [lV 1 ae p0, sV p1] (.tup [.one (.so [] 0 0 (((v.1).map ae).length)), .one (.c (bC v.2))]) [lC 1 ae v.1] :=
 (xx p0 p1).call aG Tryz.func200 rfl (res := (fun v => .tup [.one (.so [] 0 0 (((v.1).map ae).length)), .one (.c (bC v.2))])) (row := (fun v => [lC 1 ae v.1])) (by kernel_rfl) h
structure eT where
 v4 : (List Int)
 v41 : Int
def eO (p0 : ch) (s1 : eT) : Wk (eT ⊕ (List Int)) :=
 .p 1 <|.ite (decide (s1.v41 < ((p0.keys.map aq).length : Int)))
 (.eb <|.p 1 <|.bnd (aB p0.keys s1.v41) fun x2 ex2 =>
 .s (.idx aq ex2) <|.p 5 <|.bnd (ql s1.v4 x2) fun r4 er4 =>
 .s (.ma (Ba s1.v4 x2 r4 er4) Tryz.call200 (aN (ba gL _) (aw))) <|.p 8 <|.jn false (ι := (List Int)) (fun j => ms 82 [(1, pV 1), (4, .one (.so [] 4 0 (((j).map ae).length))), (39, lV 1 aq p0.keys), (40, iV ((p0.keys.map aq).length : Int)), (41, iV s1.v41)] [(1, [.bx [.fz (lC 1 aq p0.keys), .fz (lC 1 aq p0.vals), .fz (lC 1 ah p0.kids)]]), (4, [lC 1 ae j])])
 (.ite (decide (((p0.kids.map ah).length : Int) > 0))
 (.p 5 <|.bnd (aB p0.kids (IntKind.wrap .i64 (s1.v41 + 1))) fun x3 ex3 =>
 .s (.idx ah ex3) <|.p 1 <|.bnd (mi r4.1 x3) fun r5 er5 =>
 .s (.ma (mX r4.1 x3 r5 er5) Tryz.call198 (aN (ba gL _) (aw))) <|.p 4 <|.im (.ren 64 4 4) <|.ret r5.1)
 (.p 4 <|.bnd (aB p0.vals s1.v41) fun x4 ex4 =>
 .s (.idx aq ex4) <|.p 1 <|.bnd (ql r4.1 x4) fun r6 er6 =>
 .s (.ma (Ba r4.1 x4 r6 er6) Tryz.call200 (aN (ba gL _) (aw))) <|.p 4 <|.im (.ren 74 4 4) <|.ret r6.1)) fun j3 =>
 .p 2 <|.ret (.inl ((⟨j3, IntKind.wrap .i64 (s1.v41 + 1)⟩ : eT))))
 (.ret (.inr s1.v4))
def qT (p0 : ch) : Wk ((List Int) × Bool) :=
 .p 4 <|.bnd (zr p0) fun r1 er1 =>
 .s (.call (PQ p0 r1 er1) Tryz.call199) <|.p 1 <|.ite (!r1)
 (.p 2 <|.im (.Gv 2 2 1) <|.ret (([], false)))
 (.p 6 <|.jn false (ι := (List Int)) (fun j => ms 82 [(1, pV 1), (4, .one (.so [] 10 0 (((j).map ae).length)))] [(1, [.bx [.fz (lC 1 aq p0.keys), .fz (lC 1 aq p0.vals), .fz (lC 1 ah p0.kids)]]), (10, [lC 1 ae j])])
 (.ite (decide (((p0.kids.map ah).length : Int) > 0))
 (.p 3 <|.ret (([66] : List Int)))
 (.ret (([76] : List Int)))) fun j1 =>
 .p 4 <|.bnd (mi j1 ((p0.keys.map aq).length : Int)) fun r2 er2 =>
 .s (.ma (mX j1 ((p0.keys.map aq).length : Int) r2 er2) Tryz.call198 (aN (ba gL _) (aw))) <|.p 8 <|.jn false (ι := (List Int)) (fun j => ms 82 [(1, pV 1), (4, .one (.so [] 4 0 (((j).map ae).length)))] [(1, [.bx [.fz (lC 1 aq p0.keys), .fz (lC 1 aq p0.vals), .fz (lC 1 ah p0.kids)]]), (4, [lC 1 ae j])])
 (.ite (decide (((p0.kids.map ah).length : Int) > 0))
 (.p 3 <|.bnd (aB p0.kids 0) fun x1 ex1 =>
 .s (.idx ah ex1) <|.p 1 <|.bnd (mi r2.1 x1) fun r3 er3 =>
 .s (.ma (mX r2.1 x1 r3 er3) Tryz.call198 (aN (ba gL _) (aw))) <|.p 4 <|.im (.ren 35 4 4) <|.ret r3.1)
 (.im (.ren 22 4 4) <|.ret r2.1)) fun j2 =>
 .p 4 <|.jn true (ι := (List Int)) (fun j => ms 82 [(4, .one (.so [] 4 0 (((j).map ae).length)))] [(4, [lC 1 ae j])])
 (.eb <|.loop (σ := eT) (fun s1 => ms 82 [(1, pV 1), (4, .one (.so [] 4 0 (((s1.v4).map ae).length))), (39, lV 1 aq p0.keys), (40, iV ((p0.keys.map aq).length : Int)), (41, iV s1.v41)] [(1, [.bx [.fz (lC 1 aq p0.keys), .fz (lC 1 aq p0.vals), .fz (lC 1 ah p0.kids)]]), (4, [lC 1 ae s1.v4])]) ((⟨j2, 0⟩ : eT)) (eO p0)) fun j4 =>
 .p 1 <|.bnd (Kk j4 512) fun r7 er7 =>
 .s (.ma (NT j4 512 r7 er7) Tryz.call197 (aN (ba gL _) (aw))) <|.p 4 <|.ret ((r7.1, r7.2)))
def lf (p0 : ch) : Option ((List Int) × Bool) := (qT p0).den
theorem Gb (p0 : ch) (v : (List Int) × Bool) (h : lf p0 = some v) : ab Tryz.prog 174 [.agg [.c (lC 1 aq p0.keys), .c (lC 1 aq p0.vals), .c (lC 1 ah p0.kids)]] (.tup [.one (.so [] 0 0 (((v.1).map ae).length)), .one (.c (bC v.2))]) [lC 1 ae v.1] :=
 (qT p0).call aG Tryz.func174 rfl (res := (fun v => .tup [.one (.so [] 0 0 (((v.1).map ae).length)), .one (.c (bC v.2))])) (row := (fun v => [lC 1 ae v.1])) (by kernel_rfl) h
structure nZ where
 v6 : Int
 dt : (List Int)
structure eA where
 aM : (List ByteArray)
 bn : (List ByteArray)
 dt : (List Int)
structure dw where
 v6 : Int
 v9 : Int
 aM : (List ByteArray)
 bn : (List ByteArray)
 dt : (List Int)
structure oa where
 v6 : Int
 bn : (List ByteArray)
 dt : (List Int)
def cE (p0 : (List Int)) (r1 : Int × Int) (s1 : dw) : Wk (dw ⊕ eA) :=
 .jn false (ι := Bool) (fun j => ms 132 [(0, lV 1 ae p0), (2, pV 2), (4, pV 4), (5, iV r1.1), (6, iV s1.v6), (9, iV s1.v9), (71, bV j)] [(2, [.bx [.sl 1 ([]), .sl 1 ([]), .sl 1 ([])]]), (4, [.bx [lC 1 aq s1.aM, lC 1 aq s1.bn, lC 1 ah s1.dt]])])
 (.p 4 <|.cut 64 (decide (s1.v9 < r1.1))
 (.p 4 <|.cut 68 (decide (s1.v9 <= 4))
 (.p 3 <|.ret (decide (s1.v6 >= 0)))
 (.p 3 <|.ret false))
 (.p 7 <|.ret false)) fun j4 =>
 .ite (j4)
 (.eb <|.p 2 <|.bnd (qj p0 s1.v6) fun r3 er3 =>
 .s (.call (AZ p0 s1.v6 r3 er3) Tryz.call173) <|.p 9 <|.chk (((s1.aM).length + (([r3.1] : List ByteArray)).length) * 16 <= 140737488355328) fun c1 =>
 .s (.app aq .lit c1) <|.p 1 <|.s (.o) <|.p 3 <|.bnd (aB p0 0) fun x3 ex3 =>
 .s (.idx ae ex3) <|.p 2 <|.jn false (ι := oa) (fun j => ms 132 [(0, lV 1 ae p0), (2, pV 2), (4, pV 4), (5, iV r1.1), (6, iV j.v6), (9, iV s1.v9)] [(2, [.bx [.sl 1 ([]), .sl 1 ([]), .sl 1 ([])]]), (4, [.bx [lC 1 aq (s1.aM ++ ([r3.1] : List ByteArray)), lC 1 aq j.bn, lC 1 ah j.dt]])])
 (.ite ((x3 == 66))
 (.p 2 <|.bnd (oJ p0 r3.2) fun r4 er4 =>
 .s (.call (ru p0 r3.2 r4 er4) Tryz.call172) <|.p 9 <|.chk (((s1.dt).length + (([r4.1] : List Int)).length) * 8 <= 140737488355328) fun c2 =>
 .s (.app ah .lit c2) <|.p 1 <|.s (.o) <|.p 2 <|.ret ((⟨r4.2, s1.bn, s1.dt ++ ([r4.1] : List Int)⟩ : oa)))
 (.p 2 <|.bnd (qj p0 r3.2) fun r5 er5 =>
 .s (.call (AZ p0 r3.2 r5 er5) Tryz.call173) <|.p 9 <|.chk (((s1.bn).length + (([r5.1] : List ByteArray)).length) * 16 <= 140737488355328) fun c3 =>
 .s (.app aq .lit c3) <|.p 1 <|.s (.o) <|.p 2 <|.ret ((⟨r5.2, s1.bn ++ ([r5.1] : List ByteArray), s1.dt⟩ : oa)))) fun j5 =>
 .p 3 <|.ret (.inl ((⟨j5.v6, IntKind.wrap .i64 (s1.v9 + 1), s1.aM ++ ([r3.1] : List ByteArray), j5.bn, j5.dt⟩ : dw))))
 (.ret (.inr ((⟨s1.aM, s1.bn, s1.dt⟩ : eA))))
def tJ (p0 : (List Int)) : Wk (ch × Bool) :=
 .p 5 <|.jn false (ι := Bool) (fun j => ms 132 [(0, lV 1 ae p0), (2, pV 2), (4, pV 4), (33, bV j)] [(2, [.bx [.sl 1 ([]), .sl 1 ([]), .sl 1 ([])]]), (4, [.bx [.sl 1 ([]), .sl 1 ([]), .sl 1 ([])]])])
 (.p 4 <|.cut 22 ((((p0.map ae).length : Int) != 512))
 (.p 11 <|.ret true)
 (.p 1 <|.bnd (aB p0 0) fun x1 ex1 =>
 .s (.idx ae ex1) <|.p 3 <|.cut 27 ((x1 != 76))
 (.p 1 <|.bnd (aB p0 0) fun x2 ex2 =>
 .s (.idx ae ex2) <|.p 4 <|.ret ((x2 != 66)))
 (.p 6 <|.ret false))) fun j1 =>
 .ite (j1)
 (.p 3 <|.ret (((⟨[], [], []⟩ : ch), false)))
 (.p 1 <|.bnd (oJ p0 1) fun r1 er1 =>
 .s (.call (ru p0 1 r1 er1) Tryz.call172) <|.p 5 <|.jn false (ι := Bool) (fun j => ms 132 [(0, lV 1 ae p0), (2, pV 2), (4, pV 4), (5, iV r1.1), (6, iV r1.2), (47, bV j)] [(2, [.bx [.sl 1 ([]), .sl 1 ([]), .sl 1 ([])]]), (4, [.bx [.sl 1 ([]), .sl 1 ([]), .sl 1 ([])]])])
 (.p 1 <|.bnd (aB p0 0) fun x2 ex2 =>
 .s (.idx ae ex2) <|.p 3 <|.cut 44 ((x2 == 66))
 (.p 3 <|.ret (decide (r1.2 >= 0)))
 (.p 3 <|.ret false)) fun j2 =>
 .jn false (ι := nZ) (fun j => ms 132 [(0, lV 1 ae p0), (2, pV 2), (4, pV 4), (5, iV r1.1), (6, iV j.v6)] [(2, [.bx [.sl 1 ([]), .sl 1 ([]), .sl 1 ([])]]), (4, [.bx [.sl 1 ([]), .sl 1 ([]), lC 1 ah j.dt]])])
 (.ite (j2)
 (.p 2 <|.bnd (oJ p0 r1.2) fun r2 er2 =>
 .s (.call (ru p0 r1.2 r2 er2) Tryz.call172) <|.p 14 <|.ret ((⟨r2.2, ([r2.1] : List Int)⟩ : nZ)))
 (.ret ((⟨r1.2, ([] : List Int)⟩ : nZ)))) fun j3 =>
 .p 1 <|.jn true (ι := eA) (fun j => ms 132 [(0, lV 1 ae p0), (2, pV 2), (4, pV 4)] [(2, [.bx [.sl 1 ([]), .sl 1 ([]), .sl 1 ([])]]), (4, [.bx [lC 1 aq j.aM, lC 1 aq j.bn, lC 1 ah j.dt]])])
 (.eb <|.loop (σ := dw) (fun s1 => ms 132 [(0, lV 1 ae p0), (2, pV 2), (4, pV 4), (5, iV r1.1), (6, iV s1.v6), (9, iV s1.v9)] [(2, [.bx [.sl 1 ([]), .sl 1 ([]), .sl 1 ([])]]), (4, [.bx [lC 1 aq s1.aM, lC 1 aq s1.bn, lC 1 ah s1.dt]])]) ((⟨j3.v6, 0, ([] : List ByteArray), ([] : List ByteArray), j3.dt⟩ : dw)) (cE p0 r1)) fun j6 =>
 .p 1 <|.bnd (lf ((⟨j6.aM, j6.bn, j6.dt⟩ : ch))) fun r6 er6 =>
 .s (.ma (Gb ((⟨j6.aM, j6.bn, j6.dt⟩ : ch)) r6 er6) Tryz.call174 (aN (ba gL _) (aw))) <|.p 5 <|.jn false (ι := Bool) (fun j => ms 132 [(2, pV 2), (4, pV 4), (129, bV j)] [(2, [.bx [.sl 1 ([]), .sl 1 ([]), .sl 1 ([])]]), (4, [.bx [lC 1 aq j6.aM, lC 1 aq j6.bn, lC 1 ah j6.dt]])])
 (.p 3 <|.cut 124 (!r6.2)
 (.p 5 <|.ret true)
 (.p 2 <|.bnd (jw r6.1 p0) fun r7 er7 =>
 .s (.ma (Be r6.1 p0 r7 er7) Tryz.call171 (aw)) <|.p 2 <|.ret (!r7))) fun j7 =>
 .ite (j7)
 (.p 3 <|.ret (((⟨[], [], []⟩ : ch), false)))
 (.p 1 <|.s (.o) <|.p 1 <|.ret (((⟨j6.aM, j6.bn, j6.dt⟩ : ch), true))))
def rJ (p0 : (List Int)) : Option (ch × Bool) := (tJ p0).den
theorem Jr (p0 : (List Int)) (v : ch × Bool) (h : rJ p0 = some v) : ab Tryz.prog 142 [lV 1 ae p0] (.tup [.agg [.so [] 0 0 (((v.1.keys).map aq).length), .so [] 0 1 (((v.1.vals).map aq).length), .so [] 0 2 (((v.1.kids).map ah).length)], .one (.c (bC v.2))]) [lC 1 aq v.1.keys, lC 1 aq v.1.vals, lC 1 ah v.1.kids] :=
 (tJ p0).call aG Tryz.func142 rfl (res := (fun v => .tup [.agg [.so [] 0 0 (((v.1.keys).map aq).length), .so [] 0 1 (((v.1.vals).map aq).length), .so [] 0 2 (((v.1.kids).map ah).length)], .one (.c (bC v.2))])) (row := (fun v => [lC 1 aq v.1.keys, lC 1 aq v.1.vals, lC 1 ah v.1.kids])) (by kernel_rfl) h
def nK (p0 : (List Int)) (p1 : Int) (s1 : Int) : Wk (Int ⊕ (Unit ⊕ (Bool))) :=
 .p 1 <|.ite (decide (s1 < ((p0.map ah).length : Int)))
 (.eb <|.bnd (aB p0 s1) fun x1 ex1 =>
 .s (.idx ah ex1) <|.p 5 <|.ite ((x1 == p1))
 (.p 1 <|.ret (.inr (.inr true)))
 (.p 2 <|.ret (.inl (IntKind.wrap .i64 (s1 + 1)))))
 (.ret (.inr (.inl (()))))
def CL (p0 : (List Int)) (p1 : Int) : Wk (Bool) :=
 .p 4 <|.join true (ι := Unit) (fun j => ms 17 [] [])
 (.eb <|.loop (σ := Int) (fun s1 => ms 17 [(1, iV p1), (7, lV 1 ah p0), (8, iV ((p0.map ah).length : Int)), (9, iV s1)] []) 0 (nK p0 p1)) fun j1 =>
 .p 1 <|.ret false
def rN (p0 : (List Int)) (p1 : Int) : Option (Bool) := (CL p0 p1).den
theorem wL (p0 : (List Int)) (p1 : Int) (v : Bool) (h : rN p0 p1 = some v) : ab Tryz.prog 17 [lV 1 ah p0, iV p1] (bV v) [] :=
 (CL p0 p1).call aG Tryz.func17 rfl (res := (fun v => bV v)) (row := fun v => []) (by kernel_rfl) h
structure pC where
 oT : (List az)
 Na : (List ByteArray)
structure fS where
 v64 : Int
 oT : (List az)
def lL (p0 : bp) (p1 : Int) (p2 : (List Node)) (p3 : (List Int)) (r2 : ch × Bool) (s1 : fS) : Wk (fS ⊕ (List az)) :=
 .p 1 <|.ite (decide (s1.v64 < ((r2.1.keys.map aq).length : Int)))
 (.eb <|.p 1 <|.bnd (aB r2.1.keys s1.v64) fun x1 ex1 =>
 .s (.ixo aq ex1) <|.s (.ld aq (bO ex1).2) <|.p 2 <|.bnd (aB r2.1.vals s1.v64) fun x2 ex2 =>
 .chk (((s1.oT).length + (([(⟨x1, x2⟩ : az)] : List az)).length) * 32 <= 140737488355328) fun c1 =>
 .drawn [10, 12] [(6, .ixo aq ex2), (7, .ld aq (bO ex2).2), (10, .app af .lit c1), (12, .o)] (ms 126 [(1, iV p1), (2, .one (.so [] 0 0 (((p2).map aa).length))), (3, .one (.so [] 0 1 (((p3).map ah).length))), (4, pV 4), (13, pV 13), (15, iV ((p2.map aa).length : Int)), (16, pV 16), (62, .one (.so [(13, 0)] 0 0 (((r2.1.keys).map aq).length))), (63, iV ((r2.1.keys.map aq).length : Int)), (64, iV s1.v64)] [(0, [lC 3 aa p2, lC 1 ah p3]), (4, [.bx (dN p0)]), (13, [.bx [lC 1 aq r2.1.keys, lC 1 aq r2.1.vals, lC 1 ah r2.1.kids]]), (16, [.bx [lC 2 af (s1.oT ++ ([(⟨x1, x2⟩ : az)] : List az)), .sl 1 ([]), .sl 1 ([])]])]) <|.p 2 <|.ret (.inl ((⟨IntKind.wrap .i64 (s1.v64 + 1), s1.oT ++ ([(⟨x1, x2⟩ : az)] : List az)⟩ : fS))))
 (.ret (.inr s1.oT))
structure pD where
 v2 : (List Node)
 v3 : (List Int)
structure fT where
 v2 : (List Node)
 v3 : (List Int)
 v93 : Int
abbrev Ua (recF : bp -> Int -> ((List Node)) -> ((List Int)) -> Option ((List Node) × (List Int) × Bool)) : Prop := ∀ (p0 : bp) (p1 : Int) (p2 : (List Node)) (p3 : (List Int)) (v : (List Node) × (List Int) × Bool), recF p0 p1 p2 p3 = some v -> lA Tryz.prog 99 [lC 3 aa p2, lC 1 ah p3] [.agg (sg p0), iV p1, .one (.so [] 0 0 (((p2).map aa).length)), .one (.so [] 0 1 (((p3).map ah).length))] [] (.tup [.one (.so [] 0 0 (((v.1).map aa).length)), .one (.so [] 0 1 (((v.2.1).map ah).length)), .one (.c (bC v.2.2))]) [lC 3 aa v.1, lC 1 ah v.2.1]
def jb (p0 : bp) (p1 : Int) (p2 : (List Node)) (p3 : (List Int)) (recF : bp -> Int -> ((List Node)) -> ((List Int)) -> Option ((List Node) × (List Int) × Bool)) (hrec : Ua recF) (r2 : ch × Bool) (s2 : fT) : Wk (fT ⊕ (pD ⊕ ((List Node) × (List Int) × Bool))) :=
 .p 1 <|.ite (decide (s2.v93 < ((r2.1.kids.map ah).length : Int)))
 (.eb <|.bnd (aB r2.1.kids s2.v93) fun x3 ex3 =>
 .s (.ixo ah ex3) <|.s (.ld ah (bO ex3).2) <|.p 5 <|.bnd (aB s2.v2 ((p2.map aa).length : Int)) fun x4 ex4 =>
 .s (.ixo aa ex4) <|.p 1 <|.s (.ld aa (bO ex4).2) <|.p 3 <|.chk (((x4.kids).length + (([((s2.v2.map aa).length : Int)] : List Int)).length) * 8 <= 140737488355328) fun c4 =>
 .s (.Ze aa ah (bO ex4).2 2 .lit [2, 3, 4, 15, 20, 91, 92, 93, 97, 98, 107] (ys := x4.kids) c4) <|.s (.ixd aa (xs := s2.v2) (n := ((p2.map aa).length : Int)) [lC 2 af x4.pairs, lC 1 aq x4.keys, .dead] (by simpa using ur ex4)) <|.p 1 <|.s (.std aa [lC 2 af x4.pairs, lC 1 aq x4.keys, .dead] ((⟨x4.pairs, x4.keys, x4.kids ++ ([((s2.v2.map aa).length : Int)] : List Int)⟩ : Node)) (bO ex4).2 rfl) <|.im (.wc 2 (show (.one (.so [] 2 0 (((s2.v2).map aa).length)) : TV) = .one (.so [] 2 0 (((s2.v2.set (((p2).map aa).length) ((⟨x4.pairs, x4.keys, x4.kids ++ ([((s2.v2.map aa).length : Int)] : List Int)⟩ : Node))).map aa).length)) by simp <;> omega)) <|.p 4 <|.bnd (recF p0 x3 (s2.v2.set (((p2).map aa).length) ((⟨x4.pairs, x4.keys, x4.kids ++ ([((s2.v2.map aa).length : Int)] : List Int)⟩ : Node))) s2.v3) fun r4 er4 =>
 .s (.g (hrec p0 x3 (s2.v2.set (((p2).map aa).length) ((⟨x4.pairs, x4.keys, x4.kids ++ ([((s2.v2.map aa).length : Int)] : List Int)⟩ : Node))) s2.v3 r4 er4) Tryz.call99 .nil) <|.p 9 <|.ite (!r4.2.2)
 (.p 3 <|.im (.Gv 8 8 3) <|.im (.Gv 9 9 1) <|.im (.yQ [(0, 0)]) <|.im (.yQ [(0, 1)]) <|.ret (.inr (.inr (([], [], false)))))
 (.p 6 <|.im (.ren 115 2 2) <|.im (.YW [] 115 1 3 3) <|.ret (.inl ((⟨r4.1, r4.2.1, IntKind.wrap .i64 (s2.v93 + 1)⟩ : fT)))))
 (.ret (.inr (.inl ((⟨s2.v2, s2.v3⟩ : pD)))))
def nn (recF : bp -> Int -> ((List Node)) -> ((List Int)) -> Option ((List Node) × (List Int) × Bool)) (hrec : Ua recF) (p0 : bp) (p1 : Int) (p2 : (List Node)) (p3 : (List Int)) : Wk ((List Node) × (List Int) × Bool) :=
 .p 6 <|.bnd (iz p0 p1) fun r1 er1 =>
 .s (.call (yv p0 p1 r1 er1) Tryz.call140) <|.p 6 <|.bnd (rJ r1.1) fun r2 er2 =>
 .s (.ma (Jr r1.1 r2 er2) Tryz.call142 (aN (ba NA _) (aN (ba NA _) (aN (ba DE _) (aw))))) <|.p 4 <|.s (.o) <|.p 1 <|.jn false (ι := Bool) (fun j => ms 126 [(1, iV p1), (2, .one (.so [] 0 0 (((p2).map aa).length))), (3, .one (.so [] 0 1 (((p3).map ah).length))), (4, pV 4), (13, pV 13), (50, bV j)] [(0, [lC 3 aa p2, lC 1 ah p3]), (4, [.bx (dN p0)]), (13, [.bx [lC 1 aq r2.1.keys, lC 1 aq r2.1.vals, lC 1 ah r2.1.kids]])])
 (.p 3 <|.cut 37 (!r1.2)
 (.p 13 <|.ret true)
 (.p 4 <|.cut 41 (!r2.2)
 (.p 9 <|.ret true)
 (.p 2 <|.bnd (rN p3 p1) fun r3 er3 =>
 .s (.ma (wL p3 p1 r3 er3) Tryz.call17 (aw)) <|.p 2 <|.cut 46 (r3)
 (.p 4 <|.ret true)
 (.p 4 <|.ret (decide (((p2.map aa).length : Int) >= 400)))))) fun j1 =>
 .ite (j1)
 (.p 3 <|.im (.Gv 8 8 3) <|.im (.Gv 9 9 1) <|.im (.yQ [(0, 0)]) <|.im (.yQ [(0, 1)]) <|.ret (([], [], false)))
 (.p 10 <|.jn false (ι := pC) (fun j => ms 126 [(1, iV p1), (2, .one (.so [] 0 0 (((p2).map aa).length))), (3, .one (.so [] 0 1 (((p3).map ah).length))), (4, pV 4), (13, pV 13), (15, iV ((p2.map aa).length : Int)), (16, pV 16)] [(0, [lC 3 aa p2, lC 1 ah p3]), (4, [.bx (dN p0)]), (13, [.bx [.dead, lC 1 aq r2.1.vals, lC 1 ah r2.1.kids]]), (16, [.bx [lC 2 af j.oT, lC 1 aq j.Na, .sl 1 ([])]])])
 (.ite (decide (((r2.1.kids.map ah).length : Int) > 0))
 (.p 3 <|.s (.o) <|.ret ((⟨([] : List az), r2.1.keys⟩ : pC)))
 (.p 4 <|.jn true (ι := (List az)) (fun j => ms 126 [(1, iV p1), (2, .one (.so [] 0 0 (((p2).map aa).length))), (3, .one (.so [] 0 1 (((p3).map ah).length))), (4, pV 4), (13, pV 13), (15, iV ((p2.map aa).length : Int)), (16, pV 16)] [(0, [lC 3 aa p2, lC 1 ah p3]), (4, [.bx (dN p0)]), (13, [.bx [lC 1 aq r2.1.keys, lC 1 aq r2.1.vals, lC 1 ah r2.1.kids]]), (16, [.bx [lC 2 af j, .sl 1 ([]), .sl 1 ([])]])])
 (.eb <|.loop (σ := fS) (fun s1 => ms 126 [(1, iV p1), (2, .one (.so [] 0 0 (((p2).map aa).length))), (3, .one (.so [] 0 1 (((p3).map ah).length))), (4, pV 4), (13, pV 13), (15, iV ((p2.map aa).length : Int)), (16, pV 16), (62, .one (.so [(13, 0)] 0 0 (((r2.1.keys).map aq).length))), (63, iV ((r2.1.keys.map aq).length : Int)), (64, iV s1.v64)] [(0, [lC 3 aa p2, lC 1 ah p3]), (4, [.bx (dN p0)]), (13, [.bx [lC 1 aq r2.1.keys, lC 1 aq r2.1.vals, lC 1 ah r2.1.kids]]), (16, [.bx [lC 2 af s1.oT, .sl 1 ([]), .sl 1 ([])]])]) ((⟨0, ([] : List az)⟩ : fS)) (lL p0 p1 p2 p3 r2)) fun j2 =>
 .im (.kill [(13, 0), (0, 0)]) <|.ret ((⟨j2, ([] : List ByteArray)⟩ : pC)))) fun j3 =>
 .p 2 <|.s (.ob) <|.chk (((p2).length + 1) * 72 <= 140737488355328) fun c2 =>
 .s (.YK aa (xs := p2) ((⟨j3.oT, j3.Na, []⟩ : Node)) c2) <|.p 4 <|.chk (((p3).length + (([p1] : List Int)).length) * 8 <= 140737488355328) fun c3 =>
 .s (.app ah .lit c3) <|.p 5 <|.join true (ι := pD) (fun j => ms 126 [(2, .one (.so [] 2 0 (((j.v2).map aa).length))), (3, .one (.so [] 3 0 (((j.v3).map ah).length)))] [(2, [lC 3 aa j.v2]), (3, [lC 1 ah j.v3])])
 (.eb <|.im (.ren 85 2 2) <|.im (.ren 89 3 3) <|.loop (σ := fT) (fun s2 => ms 126 [(2, .one (.so [] 2 0 (((s2.v2).map aa).length))), (3, .one (.so [] 3 0 (((s2.v3).map ah).length))), (4, pV 4), (15, iV ((p2.map aa).length : Int)), (91, .one (.so [(13, 0)] 0 2 (((r2.1.kids).map ah).length))), (92, iV ((r2.1.kids.map ah).length : Int)), (93, iV s2.v93)] [(2, [lC 3 aa s2.v2]), (3, [lC 1 ah s2.v3]), (4, [.bx (dN p0)]), (13, [.bx [.dead, lC 1 aq r2.1.vals, lC 1 ah r2.1.kids]])]) ((⟨p2 ++ [(⟨j3.oT, j3.Na, []⟩ : Node)], p3 ++ ([p1] : List Int), 0⟩ : fT)) (jb p0 p1 p2 p3 recF hrec r2)) fun j4 =>
 .p 5 <|.im (.yQ [(0, 0)]) <|.im (.yQ [(0, 1)]) <|.ret ((j4.v2, j4.v3, true)))
theorem Jd (recF : bp -> Int -> ((List Node)) -> ((List Int)) -> Option ((List Node) × (List Int) × Bool)) (hrec : Ua recF) (p0 : bp) (p1 : Int) (p2 : (List Node)) (p3 : (List Int)) (v : (List Node) × (List Int) × Bool) (h : (nn recF hrec p0 p1 p2 p3).den = some v) : lA Tryz.prog 99 [lC 3 aa p2, lC 1 ah p3] [.agg (sg p0), iV p1, .one (.so [] 0 0 (((p2).map aa).length)), .one (.so [] 0 1 (((p3).map ah).length))] [] (.tup [.one (.so [] 0 0 (((v.1).map aa).length)), .one (.so [] 0 1 (((v.2.1).map ah).length)), .one (.c (bC v.2.2))]) [lC 3 aa v.1, lC 1 ah v.2.1] :=
 (nn recF hrec p0 p1 p2 p3).Di aG Tryz.func99 rfl (outs := (fun v : (List Node) × (List Int) × Bool => [])) (res := (fun v => .tup [.one (.so [] 0 0 (((v.1).map aa).length)), .one (.so [] 0 1 (((v.2.1).map ah).length)), .one (.c (bC v.2.2))])) (row := (fun v => [lC 3 aa v.1, lC 1 ah v.2.1])) (Nat.le_of_ble_eq_true rfl) (by kernel_rfl) h
def cb : Nat -> { recF : bp -> Int -> ((List Node)) -> ((List Int)) -> Option ((List Node) × (List Int) × Bool) // Ua recF }
 | 0 => ⟨fun _ _ _ _ => none, fun _ _ _ _ _ h => nomatch h⟩
 | k + 1 => ⟨fun p0 p1 p2 p3 => (nn (cb k).1 (cb k).2 p0 p1 p2 p3).den, fun p0 p1 p2 p3 v h => Jd (cb k).1 (cb k).2 p0 p1 p2 p3 v h⟩
def BZ (p0 : bp) (p1 : Int) (p2 : (List Node)) (p3 : (List Int)) : Option ((List Node) × (List Int) × Bool) := lim fun k => (cb k).1 p0 p1 p2 p3
theorem Ma (p0 : bp) (p1 : Int) (p2 : (List Node)) (p3 : (List Int)) (v : (List Node) × (List Int) × Bool) (h : BZ p0 p1 p2 p3 = some v) : lA Tryz.prog 99 [lC 3 aa p2, lC 1 ah p3] [.agg (sg p0), iV p1, .one (.so [] 0 0 (((p2).map aa).length)), .one (.so [] 0 1 (((p3).map ah).length))] [] (.tup [.one (.so [] 0 0 (((v.1).map aa).length)), .one (.so [] 0 1 (((v.2.1).map ah).length)), .one (.c (bC v.2.2))]) [lC 3 aa v.1, lC 1 ah v.2.1] := by
 obtain ⟨k, hk⟩ := Bx h
 exact (cb k).2 p0 p1 p2 p3 v hk
structure pB where
 v11 : Int
 tw : (List R3)
structure je where
 v11 : Int
 v50 : Int
 tw : (List R3)
abbrev Ub (recF : Tree -> Int -> Int -> Option (aA × Int × Bool)) : Prop := ∀ (p0 : Tree) (p1 : Int) (p2 : Int) (v : aA × Int × Bool), recF p0 p1 p2 = some v -> ab Tryz.prog 147 [.agg [.c (lC 3 aa p0.nodes)], iV p1, iV p2] (.tup [.agg [.c (bC v.1.leaf), .c (lC 2 af v.1.pairs), .c (lC 3 eR3 v.1.kids)], .one (.c (iC v.2.1)), .one (.c (bC v.2.2))]) []
def dT (p0 : Tree) (p1 : Int) (p2 : Int) (recF : Tree -> Int -> Int -> Option (aA × Int × Bool)) (hrec : Ub recF) (x1 : Node) (s1 : je) : Wk (je ⊕ (pB ⊕ (aA × Int × Bool))) :=
 .p 1 <|.ite (decide (s1.v50 < ((x1.kids.map ah).length : Int)))
 (.eb <|.bnd (aB x1.kids s1.v50) fun x2 ex2 =>
 .s (.idx ah ex2) <|.p 5 <|.ite ((x2 != s1.v11))
 (.p 4 <|.im (.yZ [(6, 0)] 0 1) <|.im (.yZ [(6, 0)] 0 2) <|.ret (.inr (.inr (((⟨false, [], []⟩ : aA), 0, false)))))
 (.p 4 <|.bnd (recF p0 x2 (IntKind.wrap .i64 (p2 + 1))) fun r1 er1 =>
 .s (.call (hrec p0 x2 (IntKind.wrap .i64 (p2 + 1)) r1 er1) Tryz.call147) <|.p 10 <|.ite (!r1.2.2)
 (.p 4 <|.im (.yZ [(6, 0)] 0 1) <|.im (.yZ [(6, 0)] 0 2) <|.ret (.inr (.inr (((⟨false, [], []⟩ : aA), 0, false)))))
 (.p 4 <|.chk (((s1.tw).length + (([(fD r1.1)] : List R3)).length) * 56 <= 140737488355328) fun c2 =>
 .s (.app eR3 .lit c2) <|.p 1 <|.s (.o) <|.p 4 <|.ret (.inl ((⟨r1.2.1, IntKind.wrap .i64 (s1.v50 + 1), s1.tw ++ ([(fD r1.1)] : List R3)⟩ : je))))))
 (.ret (.inr (.inl ((⟨s1.v11, s1.tw⟩ : pB)))))
def iK (recF : Tree -> Int -> Int -> Option (aA × Int × Bool)) (hrec : Ub recF) (p0 : Tree) (p1 : Int) (p2 : Int) : Wk (aA × Int × Bool) :=
 .p 4 <|.jn false (ι := Bool) (fun j => ms 80 [(1, iV p1), (2, iV p2), (3, pV 3), (6, pV 6), (29, bV j)] [(3, [.bx [.fz (lC 3 aa p0.nodes)]]), (6, [.bx [bC false, .sl 2 ([]), .sl 3 ([])]])])
 (.p 3 <|.cut 19 (decide (p1 < 0))
 (.p 10 <|.ret true)
 (.p 7 <|.cut 26 (decide (p1 >= ((p0.nodes.map aa).length : Int)))
 (.p 3 <|.ret true)
 (.p 3 <|.ret (decide (p2 > 12))))) fun j1 =>
 .ite (j1)
 (.p 4 <|.im (.yZ [(6, 0)] 0 1) <|.im (.yZ [(6, 0)] 0 2) <|.ret (((⟨false, [], []⟩ : aA), 0, false)))
 (.p 3 <|.bnd (aB p0.nodes p1) fun x1 ex1 =>
 .s (.idx aa ex1) <|.p 3 <|.chk (((([] : List az)).length + (x1.pairs).length) * 32 <= 140737488355328) fun c1 =>
 .drawn [7, 10] [(7, .app af .ro c1), (10, .o)] (ms 80 [(1, iV p1), (2, iV p2), (3, pV 3), (6, pV 6), (9, pV 9), (10, pV 10)] [(3, [.bx [.fz (lC 3 aa p0.nodes)]]), (6, [.bx [bC false, .sl 2 ([]), .sl 3 ([])]]), (9, [.bx (iM x1)]), (10, [.bx [bC ((((x1.kids.map ah).length : Int) == 0)), lC 2 af x1.pairs, .sl 3 ([])]])]) <|.p 7 <|.join true (ι := pB) (fun j => ms 80 [(6, pV 6), (10, pV 10), (11, iV j.v11)] [(6, [.bx [bC false, .sl 2 ([]), .sl 3 ([])]]), (10, [.bx [bC ((((x1.kids.map ah).length : Int) == 0)), lC 2 af x1.pairs, lC 3 eR3 j.tw]])])
 (.eb <|.loop (σ := je) (fun s1 => ms 80 [(2, iV p2), (3, pV 3), (6, pV 6), (10, pV 10), (11, iV s1.v11), (48, lV 1 ah x1.kids), (49, iV ((x1.kids.map ah).length : Int)), (50, iV s1.v50)] [(3, [.bx [.fz (lC 3 aa p0.nodes)]]), (6, [.bx [bC false, .sl 2 ([]), .sl 3 ([])]]), (10, [.bx [bC ((((x1.kids.map ah).length : Int) == 0)), lC 2 af x1.pairs, lC 3 eR3 s1.tw]])]) ((⟨IntKind.wrap .i64 (p1 + 1), 0, ([] : List R3)⟩ : je)) (dT p0 p1 p2 recF hrec x1)) fun j2 =>
 .p 2 <|.s (.o) <|.p 2 <|.im (.yZ [(6, 0)] 0 1) <|.im (.yZ [(6, 0)] 0 2) <|.ret (((⟨(((x1.kids.map ah).length : Int) == 0), x1.pairs, j2.tw⟩ : aA), j2.v11, true)))
theorem Jc (recF : Tree -> Int -> Int -> Option (aA × Int × Bool)) (hrec : Ub recF) (p0 : Tree) (p1 : Int) (p2 : Int) (v : aA × Int × Bool) (h : (iK recF hrec p0 p1 p2).den = some v) : ab Tryz.prog 147 [.agg [.c (lC 3 aa p0.nodes)], iV p1, iV p2] (.tup [.agg [.c (bC v.1.leaf), .c (lC 2 af v.1.pairs), .c (lC 3 eR3 v.1.kids)], .one (.c (iC v.2.1)), .one (.c (bC v.2.2))]) [] :=
 (iK recF hrec p0 p1 p2).call aG Tryz.func147 rfl (res := (fun v => .tup [.agg [.c (bC v.1.leaf), .c (lC 2 af v.1.pairs), .c (lC 3 eR3 v.1.kids)], .one (.c (iC v.2.1)), .one (.c (bC v.2.2))])) (row := fun v => []) (by kernel_rfl) h
def bm : Nat -> { recF : Tree -> Int -> Int -> Option (aA × Int × Bool) // Ub recF }
 | 0 => ⟨fun _ _ _ => none, fun _ _ _ _ h => nomatch h⟩
 | k + 1 => ⟨fun p0 p1 p2 => (iK (bm k).1 (bm k).2 p0 p1 p2).den, fun p0 p1 p2 v h => Jc (bm k).1 (bm k).2 p0 p1 p2 v h⟩
def BY (p0 : Tree) (p1 : Int) (p2 : Int) : Option (aA × Int × Bool) := lim fun k => (bm k).1 p0 p1 p2
theorem LY (p0 : Tree) (p1 : Int) (p2 : Int) (v : aA × Int × Bool) (h : BY p0 p1 p2 = some v) : ab Tryz.prog 147 [.agg [.c (lC 3 aa p0.nodes)], iV p1, iV p2] (.tup [.agg [.c (bC v.1.leaf), .c (lC 2 af v.1.pairs), .c (lC 3 eR3 v.1.kids)], .one (.c (iC v.2.1)), .one (.c (bC v.2.2))]) [] := by
 obtain ⟨k, hk⟩ := Bx h
 exact (bm k).2 p0 p1 p2 v hk
def se (p0 : Tree) : Wk (aA × Bool) :=
 .p 7 <|.ite ((((p0.nodes.map aa).length : Int) == 0))
 (.p 3 <|.im (.yZ [(2, 0)] 0 1) <|.im (.yZ [(2, 0)] 0 2) <|.ret (((⟨true, [], []⟩ : aA), true)))
 (.p 1 <|.bnd (BY p0 0 0) fun r1 er1 =>
 .s (.call (LY p0 0 0 r1 er1) Tryz.call147) <|.p 8 <|.jn false (ι := Bool) (fun j => ms 27 [(2, pV 2), (3, bV j)] [(2, [.bx [bC r1.1.leaf, .fz (lC 2 af r1.1.pairs), .fz (lC 3 eR3 r1.1.kids)]])])
 (.cs (r1.2.2)
 (fun h2 => .drawn [9] [(2, .kn (.pl) 20 h2)] (ms 27 [(2, pV 2), (3, bV ((r1.2.1 == ((p0.nodes.map aa).length : Int))))] [(2, [.bx [bC r1.1.leaf, .fz (lC 2 af r1.1.pairs), .fz (lC 3 eR3 r1.1.kids)]])]) <|.ret ((r1.2.1 == ((p0.nodes.map aa).length : Int))))
 (fun h2 => .drawn [9] [(2, .kn (.pl) 20 h2)] (ms 27 [(2, pV 2), (3, bV false)] [(2, [.bx [bC r1.1.leaf, .fz (lC 2 af r1.1.pairs), .fz (lC 3 eR3 r1.1.kids)]])]) <|.ret false)) fun j1 =>
 .ret ((r1.1, j1)))
def ll (p0 : Tree) : Option (aA × Bool) := (se p0).den
theorem Bc (p0 : Tree) (v : aA × Bool) (h : ll p0 = some v) : ab Tryz.prog 103 [.agg [.c (lC 3 aa p0.nodes)]] (.tup [.agg [.c (bC v.1.leaf), .c (lC 2 af v.1.pairs), .c (lC 3 eR3 v.1.kids)], .one (.c (bC v.2))]) [] :=
 (se p0).call aG Tryz.func103 rfl (res := (fun v => .tup [.agg [.c (bC v.1.leaf), .c (lC 2 af v.1.pairs), .c (lC 3 eR3 v.1.kids)], .one (.c (bC v.2))])) (row := fun v => []) (by kernel_rfl) h
abbrev Uc (recF : aA -> Bool -> Option (Bool)) : Prop := ∀ (p0 : aA) (p1 : Bool) (v : Bool), recF p0 p1 = some v -> ab Tryz.prog 143 [.agg [.c (bC p0.leaf), .c (lC 2 af p0.pairs), .c (lC 3 eR3 p0.kids)], bV p1] (bV v) []
def fM (p0 : aA) (p1 : Bool) (recF : aA -> Bool -> Option (Bool)) (hrec : Uc recF) (s1 : Int) : Wk (Int ⊕ (Unit ⊕ (Bool))) :=
 .p 1 <|.ite (decide (s1 < ((p0.kids.map eR3).length : Int)))
 (.eb <|.p 5 <|.bnd (aB p0.kids s1) fun x1 ex1 =>
 .bnd (rdE fD x1) fun y1 ey1 =>
 .s (.idx eR3 ex1) <|.im (.wc 52 (show (.one (.fp (eR3 x1) 0) : TV) = .one (.fp [bC y1.leaf, .fz (lC 2 af y1.pairs), .fz (lC 3 eR3 y1.kids)] 0) by rw [<- yD ey1]; rfl)) <|.p 1 <|.bnd (recF y1 false) fun r1 er1 =>
 .s (.call (hrec y1 false r1 er1) Tryz.call143) <|.p 1 <|.ite (!r1)
 (.p 1 <|.ret (.inr (.inr false)))
 (.p 2 <|.ret (.inl (IntKind.wrap .i64 (s1 + 1)))))
 (.ret (.inr (.inl (()))))
def iJ (recF : aA -> Bool -> Option (Bool)) (hrec : Uc recF) (p0 : aA) (p1 : Bool) : Wk (Bool) :=
 .p 4 <|.ite (p0.leaf)
 (.jn false (ι := Bool) (fun j => ms 57 [(4, bV j)] [])
 (.p 5 <|.cut 12 (decide (((p0.pairs.map af).length : Int) <= 4))
 (.p 5 <|.cut 17 (decide (((p0.pairs.map af).length : Int) >= 2))
 (.p 10 <|.ret true)
 (.p 2 <|.cut 19 (p1)
 (.p 8 <|.ret ((((p0.pairs.map af).length : Int) == 1)))
 (.p 8 <|.ret false)))
 (.p 15 <|.ret false)) fun j1 =>
 .ret j1)
 (.jn false (ι := Bool) (fun j => ms 57 [(2, pV 2), (42, bV j)] [(2, [.bx [bC p0.leaf, .fz (lC 2 af p0.pairs), .fz (lC 3 eR3 p0.kids)]])])
 (.p 5 <|.cut 31 (decide (((p0.kids.map eR3).length : Int) < 2))
 (.p 11 <|.ret true)
 (.p 6 <|.cut 37 (decide (((p0.kids.map eR3).length : Int) > 4))
 (.p 5 <|.ret true)
 (.p 5 <|.ret (decide (((p0.pairs.map af).length : Int) > 0))))) fun j2 =>
 .ite (j2)
 (.p 1 <|.ret false)
 (.p 4 <|.join true (ι := Unit) (fun j => ms 57 [] [])
 (.eb <|.loop (σ := Int) (fun s1 => ms 57 [(2, pV 2), (45, iV ((p0.kids.map eR3).length : Int)), (46, iV s1)] [(2, [.bx [bC p0.leaf, .fz (lC 2 af p0.pairs), .fz (lC 3 eR3 p0.kids)]])]) 0 (fM p0 p1 recF hrec)) fun j3 =>
 .p 1 <|.ret true))
theorem Jb (recF : aA -> Bool -> Option (Bool)) (hrec : Uc recF) (p0 : aA) (p1 : Bool) (v : Bool) (h : (iJ recF hrec p0 p1).den = some v) : ab Tryz.prog 143 [.agg [.c (bC p0.leaf), .c (lC 2 af p0.pairs), .c (lC 3 eR3 p0.kids)], bV p1] (bV v) [] :=
 (iJ recF hrec p0 p1).call aG Tryz.func143 rfl (res := (fun v => bV v)) (row := fun v => []) (by kernel_rfl) h
def bl : Nat -> { recF : aA -> Bool -> Option (Bool) // Uc recF }
 | 0 => ⟨fun _ _ => none, fun _ _ _ h => nomatch h⟩
 | k + 1 => ⟨fun p0 p1 => (iJ (bl k).1 (bl k).2 p0 p1).den, fun p0 p1 v h => Jb (bl k).1 (bl k).2 p0 p1 v h⟩
def BX (p0 : aA) (p1 : Bool) : Option (Bool) := lim fun k => (bl k).1 p0 p1
theorem LX (p0 : aA) (p1 : Bool) (v : Bool) (h : BX p0 p1 = some v) : ab Tryz.prog 143 [.agg [.c (bC p0.leaf), .c (lC 2 af p0.pairs), .c (lC 3 eR3 p0.kids)], bV p1] (bV v) [] := by
 obtain ⟨k, hk⟩ := Bx h
 exact (bl k).2 p0 p1 v hk
structure jd where
 v3 : Int
 v11 : Int
abbrev Ud (recF : aA -> Option (Int)) : Prop := ∀ (p0 : aA) (v : Int), recF p0 = some v -> ab Tryz.prog 144 [.agg [.c (bC p0.leaf), .c (lC 2 af p0.pairs), .c (lC 3 eR3 p0.kids)]] (iV v) []
def dS (p0 : aA) (recF : aA -> Option (Int)) (hrec : Ud recF) (s1 : jd) : Wk (jd ⊕ (Int ⊕ (Int))) :=
 .p 1 <|.ite (decide (s1.v11 < ((p0.kids.map eR3).length : Int)))
 (.eb <|.p 5 <|.bnd (aB p0.kids s1.v11) fun x1 ex1 =>
 .bnd (rdE fD x1) fun y1 ey1 =>
 .s (.idx eR3 ex1) <|.im (.wc 17 (show (.one (.fp (eR3 x1) 0) : TV) = .one (.fp [bC y1.leaf, .fz (lC 2 af y1.pairs), .fz (lC 3 eR3 y1.kids)] 0) by rw [<- yD ey1]; rfl)) <|.p 1 <|.bnd (recF y1) fun r1 er1 =>
 .s (.call (hrec y1 r1 er1) Tryz.call144) <|.p 1 <|.jn false (ι := Bool) (fun j => ms 36 [(1, pV 1), (5, iV r1), (10, iV ((p0.kids.map eR3).length : Int)), (11, iV s1.v11), (31, bV j)] [(1, [.bx [bC p0.leaf, .fz (lC 2 af p0.pairs), .fz (lC 3 eR3 p0.kids)]])])
 (.p 3 <|.cut 22 (decide (r1 < 0))
 (.p 9 <|.ret true)
 (.p 3 <|.cut 25 (decide (s1.v11 > 0))
 (.p 6 <|.ret (((IntKind.wrap .i64 (r1 + 1)) != s1.v3)))
 (.p 6 <|.ret false))) fun j1 =>
 .ite (j1)
 (.p 1 <|.ret (.inr (.inr (-1))))
 (.p 5 <|.ret (.inl ((⟨IntKind.wrap .i64 (r1 + 1), IntKind.wrap .i64 (s1.v11 + 1)⟩ : jd)))))
 (.ret (.inr (.inl s1.v3)))
def iI (recF : aA -> Option (Int)) (hrec : Ud recF) (p0 : aA) : Wk (Int) :=
 .p 4 <|.ite (p0.leaf)
 (.p 1 <|.ret 1)
 (.p 5 <|.join true (ι := Int) (fun j => ms 36 [(3, iV j)] [])
 (.eb <|.loop (σ := jd) (fun s1 => ms 36 [(1, pV 1), (3, iV s1.v3), (10, iV ((p0.kids.map eR3).length : Int)), (11, iV s1.v11)] [(1, [.bx [bC p0.leaf, .fz (lC 2 af p0.pairs), .fz (lC 3 eR3 p0.kids)]])]) ((⟨0, 0⟩ : jd)) (dS p0 recF hrec)) fun j2 =>
 .p 2 <|.ret j2)
theorem Ja (recF : aA -> Option (Int)) (hrec : Ud recF) (p0 : aA) (v : Int) (h : (iI recF hrec p0).den = some v) : ab Tryz.prog 144 [.agg [.c (bC p0.leaf), .c (lC 2 af p0.pairs), .c (lC 3 eR3 p0.kids)]] (iV v) [] :=
 (iI recF hrec p0).call aG Tryz.func144 rfl (res := (fun v => iV v)) (row := fun v => []) (by kernel_rfl) h
def aX : Nat -> { recF : aA -> Option (Int) // Ud recF }
 | 0 => ⟨fun _ => none, fun _ _ h => nomatch h⟩
 | k + 1 => ⟨fun p0 => (iI (aX k).1 (aX k).2 p0).den, fun p0 v h => Ja (aX k).1 (aX k).2 p0 v h⟩
def BW (p0 : aA) : Option (Int) := lim fun k => (aX k).1 p0
theorem LW (p0 : aA) (v : Int) (h : BW p0 = some v) : ab Tryz.prog 144 [.agg [.c (bC p0.leaf), .c (lC 2 af p0.pairs), .c (lC 3 eR3 p0.kids)]] (iV v) [] := by
 obtain ⟨k, hk⟩ := Bx h
 exact (aX k).2 p0 v hk
structure gG where
 v3 : (List az)
 v12 : Int
abbrev Ue (recF : aA -> Option ((List az))) : Prop := ∀ (p0 : aA) (v : (List az)), recF p0 = some v -> ab Tryz.prog 104 [.agg [.c (bC p0.leaf), .c (lC 2 af p0.pairs), .c (lC 3 eR3 p0.kids)]] (.one (.so [] 0 0 (((v).map af).length))) [lC 2 af v]
def dv (p0 : aA) (recF : aA -> Option ((List az))) (hrec : Ue recF) (s1 : gG) : Wk (gG ⊕ (List az)) :=
 .p 1 <|.ite (decide (s1.v12 < ((p0.kids.map eR3).length : Int)))
 (.eb <|.p 6 <|.bnd (aB p0.kids s1.v12) fun x1 ex1 =>
 .bnd (rdE fD x1) fun y1 ey1 =>
 .s (.idx eR3 ex1) <|.im (.wc 19 (show (.one (.fp (eR3 x1) 0) : TV) = .one (.fp [bC y1.leaf, .fz (lC 2 af y1.pairs), .fz (lC 3 eR3 y1.kids)] 0) by rw [<- yD ey1]; rfl)) <|.p 1 <|.bnd (recF y1) fun r1 er1 =>
 .s (.call (hrec y1 r1 er1) Tryz.call104) <|.chk (((s1.v3).length + (r1).length) * 32 <= 140737488355328) fun c2 =>
 .s (.app af .own c2) <|.p 3 <|.im (.ren 22 3 3) <|.ret (.inl ((⟨s1.v3 ++ r1, IntKind.wrap .i64 (s1.v12 + 1)⟩ : gG))))
 (.ret (.inr s1.v3))
def cN (recF : aA -> Option ((List az))) (hrec : Ue recF) (p0 : aA) : Wk ((List az)) :=
 .p 5 <|.chk (((([] : List az)).length + (p0.pairs).length) * 32 <= 140737488355328) fun c1 =>
 .s (.app af .ro c1) <|.p 5 <|.jn true (ι := (List az)) (fun j => ms 25 [(3, .one (.so [] 3 0 (((j).map af).length)))] [(3, [lC 2 af j])])
 (.eb <|.im (.ren 8 3 3) <|.loop (σ := gG) (fun s1 => ms 25 [(1, pV 1), (3, .one (.so [] 3 0 (((s1.v3).map af).length))), (11, iV ((p0.kids.map eR3).length : Int)), (12, iV s1.v12)] [(1, [.bx [bC p0.leaf, .fz (lC 2 af p0.pairs), .fz (lC 3 eR3 p0.kids)]]), (3, [lC 2 af s1.v3])]) ((⟨p0.pairs, 0⟩ : gG)) (dv p0 recF hrec)) fun j1 =>
 .p 2 <|.ret j1
theorem FO (recF : aA -> Option ((List az))) (hrec : Ue recF) (p0 : aA) (v : (List az)) (h : (cN recF hrec p0).den = some v) : ab Tryz.prog 104 [.agg [.c (bC p0.leaf), .c (lC 2 af p0.pairs), .c (lC 3 eR3 p0.kids)]] (.one (.so [] 0 0 (((v).map af).length))) [lC 2 af v] :=
 (cN recF hrec p0).call aG Tryz.func104 rfl (res := (fun v => .one (.so [] 0 0 (((v).map af).length)))) (row := (fun v => [lC 2 af v])) (by kernel_rfl) h
def aW : Nat -> { recF : aA -> Option ((List az)) // Ue recF }
 | 0 => ⟨fun _ => none, fun _ _ h => nomatch h⟩
 | k + 1 => ⟨fun p0 => (cN (aW k).1 (aW k).2 p0).den, fun p0 v h => FO (aW k).1 (aW k).2 p0 v h⟩
def ng (p0 : aA) : Option ((List az)) := lim fun k => (aW k).1 p0
theorem yw (p0 : aA) (v : (List az)) (h : ng p0 = some v) : ab Tryz.prog 104 [.agg [.c (bC p0.leaf), .c (lC 2 af p0.pairs), .c (lC 3 eR3 p0.kids)]] (.one (.so [] 0 0 (((v).map af).length))) [lC 2 af v] := by
 obtain ⟨k, hk⟩ := Bx h
 exact (aW k).2 p0 v hk
def lG (p0 : (List az)) (s1 : Int) : Wk (Int ⊕ (Unit ⊕ (Bool))) :=
 .p 1 <|.ite (decide (s1 < ((p0.map af).length : Int)))
 (.eb <|.p 1 <|.bnd (aB p0 s1) fun x1 ex1 =>
 .s (.idx af ex1) <|.p 4 <|.jn false (ι := Bool) (fun j => ms 41 [(0, lV 2 af p0), (8, lV 2 af p0), (9, iV ((p0.map af).length : Int)), (10, iV s1), (39, bV j)] [])
 (.bnd (tp x1.key) fun r1 er1 =>
 .cs (!r1)
 (fun h3 => .drawn [] [(2, .call (kV x1.key r1 er1) Tryz.call63), (4, .kn (.pl) 19 h3)] (ms 41 [(0, lV 2 af p0), (8, lV 2 af p0), (9, iV ((p0.map af).length : Int)), (10, iV s1), (39, bV true)] []) <|.ret true)
 (fun h3 => .bnd (BV x1.val) fun r2 er2 =>
 .cs (!r2)
 (fun h4 => .drawn [] [(2, .call (kV x1.key r1 er1) Tryz.call63), (4, .kn (.pl) 19 h3), (7, .call (uQ x1.val r2 er2) Tryz.call175), (10, .kn (.pl) 25 h4)] (ms 41 [(0, lV 2 af p0), (8, lV 2 af p0), (9, iV ((p0.map af).length : Int)), (10, iV s1), (39, bV true)] []) <|.ret true)
 (fun h4 => .cs (decide (s1 > 0))
 (fun h5 => .bnd (aB p0 (IntKind.wrap .i64 (s1 - 1))) fun x2 ex2 =>
 .drawn [] [(2, .call (kV x1.key r1 er1) Tryz.call63), (4, .kn (.pl) 19 h3), (7, .call (uQ x1.val r2 er2) Tryz.call175), (10, .kn (.pl) 25 h4), (13, .kn (.pl) 28 h5), (17, .idx af ex2)] (ms 41 [(0, lV 2 af p0), (8, lV 2 af p0), (9, iV ((p0.map af).length : Int)), (10, iV s1), (39, bV (!Op.bytesLess x2.key.toList x1.key.toList))] []) <|.ret (!Op.bytesLess x2.key.toList x1.key.toList))
 (fun h5 => .drawn [] [(2, .call (kV x1.key r1 er1) Tryz.call63), (4, .kn (.pl) 19 h3), (7, .call (uQ x1.val r2 er2) Tryz.call175), (10, .kn (.pl) 25 h4), (13, .kn (.pl) 28 h5)] (ms 41 [(0, lV 2 af p0), (8, lV 2 af p0), (9, iV ((p0.map af).length : Int)), (10, iV s1), (39, bV false)] []) <|.ret false)))) fun j1 =>
 .ite (j1)
 (.p 1 <|.ret (.inr (.inr false)))
 (.p 2 <|.ret (.inl (IntKind.wrap .i64 (s1 + 1)))))
 (.ret (.inr (.inl (()))))
def xw (p0 : (List az)) : Wk (Bool) :=
 .p 4 <|.ite (decide (((p0.map af).length : Int) > 200))
 (.p 1 <|.ret false)
 (.p 3 <|.join true (ι := Unit) (fun j => ms 41 [] [])
 (.eb <|.loop (σ := Int) (fun s1 => ms 41 [(0, lV 2 af p0), (8, lV 2 af p0), (9, iV ((p0.map af).length : Int)), (10, iV s1)] []) 0 (lG p0)) fun j2 =>
 .p 1 <|.ret true)
def vq (p0 : (List az)) : Option (Bool) := (xw p0).den
theorem LR (p0 : (List az)) (v : Bool) (h : vq p0 = some v) : ab Tryz.prog 145 [lV 2 af p0] (bV v) [] :=
 (xw p0).call aG Tryz.func145 rfl (res := (fun v => bV v)) (row := fun v => []) (by kernel_rfl) h
abbrev Wh (recF : aA -> Option (ByteArray)) : Prop := ∀ (p0 : aA) (v : ByteArray), recF p0 = some v -> ab Tryz.prog 176 [.agg [.c (bC p0.leaf), .c (lC 2 af p0.pairs), .c (lC 3 eR3 p0.kids)]] (sV v) []
def fJ (recF : aA -> Option (ByteArray)) (hrec : Wh recF) (p0 : aA) : Wk (ByteArray) :=
 .p 2 <|.jn false (ι := Bool) (fun j => ms 26 [(1, pV 1), (11, bV j)] [(1, [.bx [bC p0.leaf, .fz (lC 2 af p0.pairs), .fz (lC 3 eR3 p0.kids)]])])
 (.p 4 <|.cut 6 (!p0.leaf)
 (.p 5 <|.ret (decide (((p0.kids.map eR3).length : Int) > 0)))
 (.p 5 <|.ret false)) fun j1 =>
 .ite (j1)
 (.p 2 <|.bnd (aB p0.kids 0) fun x1 ex1 =>
 .bnd (rdE fD x1) fun y1 ey1 =>
 .s (.idx eR3 ex1) <|.im (.wc 14 (show (.one (.fp (eR3 x1) 0) : TV) = .one (.fp [bC y1.leaf, .fz (lC 2 af y1.pairs), .fz (lC 3 eR3 y1.kids)] 0) by rw [<- yD ey1]; rfl)) <|.p 1 <|.bnd (recF y1) fun r1 er1 =>
 .s (.call (hrec y1 r1 er1) Tryz.call176) <|.p 1 <|.ret r1)
 (.p 4 <|.ite (decide (((p0.pairs.map af).length : Int) > 0))
 (.p 2 <|.bnd (aB p0.pairs 0) fun x2 ex2 =>
 .s (.idx af ex2) <|.p 3 <|.ret x2.key)
 (.p 1 <|.ret ((⟨#[]⟩ : ByteArray))))
theorem FN (recF : aA -> Option (ByteArray)) (hrec : Wh recF) (p0 : aA) (v : ByteArray) (h : (fJ recF hrec p0).den = some v) : ab Tryz.prog 176 [.agg [.c (bC p0.leaf), .c (lC 2 af p0.pairs), .c (lC 3 eR3 p0.kids)]] (sV v) [] :=
 (fJ recF hrec p0).call aG Tryz.func176 rfl (res := (fun v => sV v)) (row := fun v => []) (by kernel_rfl) h
def cl : Nat -> { recF : aA -> Option (ByteArray) // Wh recF }
 | 0 => ⟨fun _ => none, fun _ _ h => nomatch h⟩
 | k + 1 => ⟨fun p0 => (fJ (cl k).1 (cl k).2 p0).den, fun p0 v h => FN (cl k).1 (cl k).2 p0 v h⟩
def wW (p0 : aA) : Option (ByteArray) := lim fun k => (cl k).1 p0
theorem Jt (p0 : aA) (v : ByteArray) (h : wW p0 = some v) : ab Tryz.prog 176 [.agg [.c (bC p0.leaf), .c (lC 2 af p0.pairs), .c (lC 3 eR3 p0.kids)]] (sV v) [] := by
 obtain ⟨k, hk⟩ := Bx h
 exact (cl k).2 p0 v hk
structure sN where
 v0 : (List Node)
 qC : (List ByteArray)
 qD : (List Int)
structure kF where
 v0 : (List Node)
 v29 : Int
 qC : (List ByteArray)
 qD : (List Int)
abbrev Uf (recF : ((List Node)) -> aA -> Option ((List Node))) : Prop := ∀ (p0 : (List Node)) (p1 : aA) (v : (List Node)), recF p0 p1 = some v -> lA Tryz.prog 146 [lC 3 aa p0] [.one (.so [] 0 0 (((p0).map aa).length)), .agg [.c (bC p1.leaf), .c (lC 2 af p1.pairs), .c (lC 3 eR3 p1.kids)]] [] (.one (.so [] 0 0 (((v).map aa).length))) [lC 3 aa v]
def nJ (p0 : (List Node)) (p1 : aA) (recF : ((List Node)) -> aA -> Option ((List Node))) (hrec : Uf recF) (s1 : kF) : Wk (kF ⊕ sN) :=
 .p 1 <|.ite (decide (s1.v29 < ((p1.kids.map eR3).length : Int)))
 (.eb <|.p 7 <|.chk (((s1.qD).length + (([((s1.v0.map aa).length : Int)] : List Int)).length) * 8 <= 140737488355328) fun c3 =>
 .s (.app ah .lit c3) <|.p 1 <|.s (.o) <|.p 2 <|.jn false (ι := (List ByteArray)) (fun j => ms 65 [(0, .one (.so [] 5 0 (((s1.v0).map aa).length))), (3, pV 3), (5, iV ((p0.map aa).length : Int)), (6, pV 6), (7, iV s1.v29), (28, iV ((p1.kids.map eR3).length : Int)), (29, iV s1.v29)] [(3, [.bx [bC p1.leaf, .fz (lC 2 af p1.pairs), .fz (lC 3 eR3 p1.kids)]]), (5, [lC 3 aa s1.v0]), (6, [.bx [.sl 2 ([]), lC 1 aq j, lC 1 ah (s1.qD ++ ([((s1.v0.map aa).length : Int)] : List Int))]])])
 (.ite (decide (s1.v29 > 0))
 (.bnd (aB p1.kids s1.v29) fun x2 ex2 =>
 .bnd (rdE fD x2) fun y1 ey1 =>
 .bnd (wW y1) fun r1 er1 =>
 .chk (((s1.qC).length + (([r1] : List ByteArray)).length) * 16 <= 140737488355328) fun c4 =>
 .drawn [9, 11] [(5, .ti (.idx eR3 ex2) (.wc 46 (show (.one (.fp (eR3 x2) 0) : TV) = .one (.fp [bC y1.leaf, .fz (lC 2 af y1.pairs), .fz (lC 3 eR3 y1.kids)] 0) by rw [<- yD ey1]; rfl))), (7, .call (Jt y1 r1 er1) Tryz.call176), (9, .app aq .lit c4), (11, .o)] (ms 65 [(0, .one (.so [] 5 0 (((s1.v0).map aa).length))), (3, pV 3), (5, iV ((p0.map aa).length : Int)), (6, pV 6), (7, iV s1.v29), (28, iV ((p1.kids.map eR3).length : Int)), (29, iV s1.v29)] [(3, [.bx [bC p1.leaf, .fz (lC 2 af p1.pairs), .fz (lC 3 eR3 p1.kids)]]), (5, [lC 3 aa s1.v0]), (6, [.bx [.sl 2 ([]), lC 1 aq (s1.qC ++ ([r1] : List ByteArray)), lC 1 ah (s1.qD ++ ([((s1.v0.map aa).length : Int)] : List Int))]])]) <|.ret (s1.qC ++ ([r1] : List ByteArray)))
 (.ret s1.qC)) fun j1 =>
 .p 4 <|.bnd (aB p1.kids s1.v29) fun x3 ex3 =>
 .bnd (rdE fD x3) fun y2 ey2 =>
 .s (.idx eR3 ex3) <|.im (.wc 56 (show (.one (.fp (eR3 x3) 0) : TV) = .one (.fp [bC y2.leaf, .fz (lC 2 af y2.pairs), .fz (lC 3 eR3 y2.kids)] 0) by rw [<- yD ey2]; rfl)) <|.p 1 <|.bnd (recF s1.v0 y2) fun r2 er2 =>
 .s (.g (hrec s1.v0 y2 r2 er2) Tryz.call146 .nil) <|.p 3 <|.im (.ren 58 5 0) <|.ret (.inl ((⟨r2, IntKind.wrap .i64 (s1.v29 + 1), j1, s1.qD ++ ([((s1.v0.map aa).length : Int)] : List Int)⟩ : kF))))
 (.ret (.inr ((⟨s1.v0, s1.qC, s1.qD⟩ : sN))))
def ly (recF : ((List Node)) -> aA -> Option ((List Node))) (hrec : Uf recF) (p0 : (List Node)) (p1 : aA) : Wk ((List Node)) :=
 .p 8 <|.chk (((p0).length + 1) * 72 <= 140737488355328) fun c1 =>
 .s (.YK aa (xs := p0) ((⟨[], [], []⟩ : Node)) c1) <|.p 3 <|.ite (p1.leaf)
 (.p 5 <|.chk (((([] : List az)).length + (p1.pairs).length) * 32 <= 140737488355328) fun c2 =>
 .s (.app af .ro c2) <|.bnd (aB (p0 ++ [(⟨[], [], []⟩ : Node)]) ((p0.map aa).length : Int)) fun x1 ex1 =>
 .s (.ixo aa ex1) <|.p 1 <|.s (.stn aa ((⟨p1.pairs, x1.keys, x1.kids⟩ : Node)) 0 (bO ex1).2 rfl) <|.im (.wc 0 (show (.one (.so [] 13 0 (((p0 ++ [(⟨[], [], []⟩ : Node)]).map aa).length)) : TV) = .one (.so [] 13 0 ((((p0 ++ [(⟨[], [], []⟩ : Node)]).set (((p0).map aa).length) ((⟨p1.pairs, x1.keys, x1.kids⟩ : Node))).map aa).length)) by simp <;> omega)) <|.p 2 <|.im (.yQ [(0, 0)]) <|.ret ((p0 ++ [(⟨[], [], []⟩ : Node)]).set (((p0).map aa).length) ((⟨p1.pairs, x1.keys, x1.kids⟩ : Node))))
 (.p 7 <|.jn true (ι := sN) (fun j => ms 65 [(0, .one (.so [] 5 0 (((j.v0).map aa).length))), (5, iV ((p0.map aa).length : Int)), (6, pV 6)] [(5, [lC 3 aa j.v0]), (6, [.bx [.sl 2 ([]), lC 1 aq j.qC, lC 1 ah j.qD]])])
 (.eb <|.im (.ren 13 5 0) <|.loop (σ := kF) (fun s1 => ms 65 [(0, .one (.so [] 5 0 (((s1.v0).map aa).length))), (3, pV 3), (5, iV ((p0.map aa).length : Int)), (6, pV 6), (28, iV ((p1.kids.map eR3).length : Int)), (29, iV s1.v29)] [(3, [.bx [bC p1.leaf, .fz (lC 2 af p1.pairs), .fz (lC 3 eR3 p1.kids)]]), (5, [lC 3 aa s1.v0]), (6, [.bx [.sl 2 ([]), lC 1 aq s1.qC, lC 1 ah s1.qD]])]) ((⟨p0 ++ [(⟨[], [], []⟩ : Node)], 0, ([] : List ByteArray), ([] : List Int)⟩ : kF)) (nJ p0 p1 recF hrec)) fun j2 =>
 .p 3 <|.bnd (aB j2.v0 ((p0.map aa).length : Int)) fun x4 ex4 =>
 .s (.ixo aa ex4) <|.s (.stm aa ((⟨[], j2.qC, j2.qD⟩ : Node)) (bO ex4).2 rfl) <|.im (.wc 0 (show (.one (.so [] 5 0 (((j2.v0).map aa).length)) : TV) = .one (.so [] 5 0 (((j2.v0.set (((p0).map aa).length) ((⟨[], j2.qC, j2.qD⟩ : Node))).map aa).length)) by simp <;> omega)) <|.p 2 <|.im (.yQ [(0, 0)]) <|.ret (j2.v0.set (((p0).map aa).length) ((⟨[], j2.qC, j2.qD⟩ : Node))))
theorem LH (recF : ((List Node)) -> aA -> Option ((List Node))) (hrec : Uf recF) (p0 : (List Node)) (p1 : aA) (v : (List Node)) (h : (ly recF hrec p0 p1).den = some v) : lA Tryz.prog 146 [lC 3 aa p0] [.one (.so [] 0 0 (((p0).map aa).length)), .agg [.c (bC p1.leaf), .c (lC 2 af p1.pairs), .c (lC 3 eR3 p1.kids)]] [] (.one (.so [] 0 0 (((v).map aa).length))) [lC 3 aa v] :=
 (ly recF hrec p0 p1).Di aG Tryz.func146 rfl (outs := (fun v : (List Node) => [])) (res := (fun v => .one (.so [] 0 0 (((v).map aa).length)))) (row := (fun v => [lC 3 aa v])) (Nat.le_of_ble_eq_true rfl) (by kernel_rfl) h
def cJ : Nat -> { recF : ((List Node)) -> aA -> Option ((List Node)) // Uf recF }
 | 0 => ⟨fun _ _ => none, fun _ _ _ h => nomatch h⟩
 | k + 1 => ⟨fun p0 p1 => (ly (cJ k).1 (cJ k).2 p0 p1).den, fun p0 p1 v h => LH (cJ k).1 (cJ k).2 p0 p1 v h⟩
def GZ (p0 : (List Node)) (p1 : aA) : Option ((List Node)) := lim fun k => (cJ k).1 p0 p1
theorem PS (p0 : (List Node)) (p1 : aA) (v : (List Node)) (h : GZ p0 p1 = some v) : lA Tryz.prog 146 [lC 3 aa p0] [.one (.so [] 0 0 (((p0).map aa).length)), .agg [.c (bC p1.leaf), .c (lC 2 af p1.pairs), .c (lC 3 eR3 p1.kids)]] [] (.one (.so [] 0 0 (((v).map aa).length))) [lC 3 aa v] := by
 obtain ⟨k, hk⟩ := Bx h
 exact (cJ k).2 p0 p1 v hk
def fc (p0 : Node) (p1 : Node) (s1 : Int) : Wk (Int ⊕ (Unit ⊕ (Bool))) :=
 .p 1 <|.ite (decide (s1 < ((p0.pairs.map af).length : Int)))
 (.eb <|.p 2 <|.bnd (aB p0.pairs s1) fun x1 ex1 =>
 .bnd (aB p1.pairs s1) fun x2 ex2 =>
 .drawn [] [(3, .idx af ex1), (8, .idx af ex2)] (ms 87 [(2, pV 2), (3, pV 3), (35, iV ((p0.pairs.map af).length : Int)), (36, iV s1), (49, bV (!((x1.key.toList == x2.key.toList) && ((x1.val.toList == x2.val.toList) && true))))] [(2, [.bx (iM p0)]), (3, [.bx (iM p1)])]) <|.ite (!((x1.key.toList == x2.key.toList) && ((x1.val.toList == x2.val.toList) && true)))
 (.p 1 <|.ret (.inr (.inr false)))
 (.p 2 <|.ret (.inl (IntKind.wrap .i64 (s1 + 1)))))
 (.ret (.inr (.inl (()))))
def fe (p0 : Node) (p1 : Node) (s2 : Int) : Wk (Int ⊕ (Unit ⊕ (Bool))) :=
 .p 1 <|.ite (decide (s2 < ((p0.keys.map aq).length : Int)))
 (.eb <|.p 2 <|.bnd (aB p0.keys s2) fun x3 ex3 =>
 .bnd (aB p1.keys s2) fun x4 ex4 =>
 .drawn [] [(3, .idx aq ex3), (8, .idx aq ex4)] (ms 87 [(2, pV 2), (3, pV 3), (53, iV ((p0.keys.map aq).length : Int)), (54, iV s2), (67, bV (!(x3.toList == x4.toList)))] [(2, [.bx (iM p0)]), (3, [.bx (iM p1)])]) <|.ite (!(x3.toList == x4.toList))
 (.p 1 <|.ret (.inr (.inr false)))
 (.p 2 <|.ret (.inl (IntKind.wrap .i64 (s2 + 1)))))
 (.ret (.inr (.inl (()))))
def ff (p0 : Node) (p1 : Node) (s3 : Int) : Wk (Int ⊕ (Unit ⊕ (Bool))) :=
 .p 1 <|.ite (decide (s3 < ((p0.kids.map ah).length : Int)))
 (.eb <|.p 2 <|.bnd (aB p0.kids s3) fun x5 ex5 =>
 .bnd (aB p1.kids s3) fun x6 ex6 =>
 .drawn [] [(3, .idx ah ex5), (8, .idx ah ex6)] (ms 87 [(2, pV 2), (3, pV 3), (71, iV ((p0.kids.map ah).length : Int)), (72, iV s3), (85, bV ((x5 != x6)))] [(2, [.bx (iM p0)]), (3, [.bx (iM p1)])]) <|.ite ((x5 != x6))
 (.p 1 <|.ret (.inr (.inr false)))
 (.p 2 <|.ret (.inl (IntKind.wrap .i64 (s3 + 1)))))
 (.ret (.inr (.inl (()))))
def mI (p0 : Node) (p1 : Node) : Wk (Bool) :=
 .p 3 <|.jn false (ι := Bool) (fun j => ms 87 [(2, pV 2), (3, pV 3), (32, bV j)] [(2, [.bx (iM p0)]), (3, [.bx (iM p1)])])
 (.p 8 <|.cut 15 ((((p0.pairs.map af).length : Int) != ((p1.pairs.map af).length : Int)))
 (.p 17 <|.ret true)
 (.p 9 <|.cut 24 ((((p0.keys.map aq).length : Int) != ((p1.keys.map aq).length : Int)))
 (.p 8 <|.ret true)
 (.p 8 <|.ret ((((p0.kids.map ah).length : Int) != ((p1.kids.map ah).length : Int)))))) fun j1 =>
 .ite (j1)
 (.p 1 <|.ret false)
 (.p 4 <|.join true (ι := Unit) (fun j => ms 87 [(2, pV 2), (3, pV 3)] [(2, [.bx (iM p0)]), (3, [.bx (iM p1)])])
 (.eb <|.loop (σ := Int) (fun s1 => ms 87 [(2, pV 2), (3, pV 3), (35, iV ((p0.pairs.map af).length : Int)), (36, iV s1)] [(2, [.bx (iM p0)]), (3, [.bx (iM p1)])]) 0 (fc p0 p1)) fun j2 =>
 .p 4 <|.join true (ι := Unit) (fun j => ms 87 [(2, pV 2), (3, pV 3)] [(2, [.bx (iM p0)]), (3, [.bx (iM p1)])])
 (.eb <|.loop (σ := Int) (fun s2 => ms 87 [(2, pV 2), (3, pV 3), (53, iV ((p0.keys.map aq).length : Int)), (54, iV s2)] [(2, [.bx (iM p0)]), (3, [.bx (iM p1)])]) 0 (fe p0 p1)) fun j3 =>
 .p 4 <|.join true (ι := Unit) (fun j => ms 87 [] [])
 (.eb <|.loop (σ := Int) (fun s3 => ms 87 [(2, pV 2), (3, pV 3), (71, iV ((p0.kids.map ah).length : Int)), (72, iV s3)] [(2, [.bx (iM p0)]), (3, [.bx (iM p1)])]) 0 (ff p0 p1)) fun j4 =>
 .p 1 <|.ret true)
def gQ (p0 : Node) (p1 : Node) : Option (Bool) := (mI p0 p1).den
theorem pR (p0 : Node) (p1 : Node) (v : Bool) (h : gQ p0 p1 = some v) : ab Tryz.prog 101 [.agg (HV p0), .agg (HV p1)] (bV v) [] :=
 (mI p0 p1).call aG Tryz.func101 rfl (res := (fun v => bV v)) (row := fun v => []) (by kernel_rfl) h
def nI (p0 : Tree) (r6 : (List Node)) (s1 : Int) : Wk (Int ⊕ (Unit ⊕ (Bool))) :=
 .p 1 <|.ite (decide (s1 < ((r6.map aa).length : Int)))
 (.eb <|.p 2 <|.bnd (aB r6 s1) fun x1 ex1 =>
 .bnd (aB p0.nodes s1) fun x2 ex2 =>
 .bnd (gQ x1 x2) fun r7 er7 =>
 .drawn [] [(2, .idx aa ex1), (7, .idx aa ex2), (9, .call (pR x1 x2 r7 er7) Tryz.call101)] (ms 63 [(1, pV 1), (5, lV 3 aa r6), (47, iV ((r6.map aa).length : Int)), (48, iV s1), (61, bV (!r7))] [(1, [.bx [.fz (lC 3 aa p0.nodes)]])]) <|.ite (!r7)
 (.p 1 <|.ret (.inr (.inr false)))
 (.p 2 <|.ret (.inl (IntKind.wrap .i64 (s1 + 1)))))
 (.ret (.inr (.inl (()))))
def wb (p0 : Tree) : Wk (Bool) :=
 .p 6 <|.ite ((((p0.nodes.map aa).length : Int) == 0))
 (.p 1 <|.ret true)
 (.p 4 <|.ite (decide (((p0.nodes.map aa).length : Int) > 400))
 (.p 1 <|.ret false)
 (.p 1 <|.bnd (ll p0) fun r1 er1 =>
 .s (.call (Bc p0 r1 er1) Tryz.call103) <|.p 6 <|.jn false (ι := Bool) (fun j => ms 63 [(1, pV 1), (3, pV 3), (37, bV j)] [(1, [.bx [.fz (lC 3 aa p0.nodes)]]), (3, [.bx [bC r1.1.leaf, .fz (lC 2 af r1.1.pairs), .fz (lC 3 eR3 r1.1.kids)]])])
 (.p 3 <|.cut 22 (!r1.2)
 (.p 15 <|.ret true)
 (.p 1 <|.bnd (BX r1.1 true) fun r2 er2 =>
 .s (.call (LX r1.1 true r2 er2) Tryz.call143) <|.p 3 <|.cut 27 (!r2)
 (.p 10 <|.ret true)
 (.p 1 <|.bnd (BW r1.1) fun r3 er3 =>
 .s (.call (LW r1.1 r3 er3) Tryz.call144) <|.p 3 <|.cut 32 (decide (r3 < 0))
 (.p 5 <|.ret true)
 (.p 1 <|.bnd (ng r1.1) fun r4 er4 =>
 .s (.call (yw r1.1 r4 er4) Tryz.call104) <|.bnd (vq r4) fun r5 er5 =>
 .s (.ma (LR r4 r5 er5) Tryz.call145 (aw)) <|.p 2 <|.ret (!r5))))) fun j1 =>
 .ite (j1)
 (.p 1 <|.ret false)
 (.p 1 <|.bnd (GZ ([]) r1.1) fun r6 er6 =>
 .s (.g (PS ([]) r1.1 r6 er6) Tryz.call146 .nil) <|.p 1 <|.im (.frz [] 39 0 5) <|.p 6 <|.ite ((((r6.map aa).length : Int) != ((p0.nodes.map aa).length : Int)))
 (.p 1 <|.ret false)
 (.p 3 <|.join true (ι := Unit) (fun j => ms 63 [] [])
 (.eb <|.loop (σ := Int) (fun s1 => ms 63 [(1, pV 1), (5, lV 3 aa r6), (47, iV ((r6.map aa).length : Int)), (48, iV s1)] [(1, [.bx [.fz (lC 3 aa p0.nodes)]])]) 0 (nI p0 r6)) fun j2 =>
 .p 1 <|.ret true))))
def oM (p0 : Tree) : Option (Bool) := (wb p0).den
theorem Ec (p0 : Tree) (v : Bool) (h : oM p0 = some v) : ab Tryz.prog 100 [.agg [.c (lC 3 aa p0.nodes)]] (bV v) [] :=
 (wb p0).call aG Tryz.func100 rfl (res := (fun v => bV v)) (row := fun v => []) (by kernel_rfl) h
def qU (p0 : bp) : Wk (cj × Int) :=
 .p 3 <|.jn false (ι := Bool) (fun j => ms 60 [(1, pV 1), (2, pV 2), (18, bV j)] [(1, [.bx (dN p0)]), (2, [.bx [.sl 1 ([]), .sl 2 ([]), iC 0, .sl 3 ([]), .sl 1 ([])]])])
 (.p 1 <|.bnd (vn p0) fun r1 er1 =>
 .s (.call (Eb p0 r1 er1) Tryz.call96) <|.p 2 <|.cut 13 (!r1)
 (.p 5 <|.ret true)
 (.p 5 <|.ret (decide (((p0.dirty.map ao).length : Int) > 0)))) fun j1 =>
 .ite (j1)
 (.p 3 <|.ret (((⟨(⟨[], []⟩ : bp), 0, (⟨[]⟩ : Tree), []⟩ : cj), 1)))
 (.p 1 <|.bnd (rG p0) fun r2 er2 =>
 .s (.call (Jp p0 r2 er2) Tryz.call97) <|.p 8 <|.ite (!r2.2)
 (.p 3 <|.ret (((⟨(⟨[], []⟩ : bp), 0, (⟨[]⟩ : Tree), []⟩ : cj), 2)))
 (.bnd (vw p0) fun r3 er3 =>
 .drawn [6] [(1, .call (LZ p0 r3 er3) Tryz.call98), (6, .o)] (ms 60 [(1, pV 1), (2, pV 2), (4, pV 4), (6, pV 6)] [(1, [.bx (dN p0)]), (2, [.bx [.sl 1 ([]), .sl 2 ([]), iC 0, .sl 3 ([]), .sl 1 ([])]]), (4, [.bx [iC r2.1.gen, iC r2.1.root]]), (6, [.bx [lC 1 aj r3.sheets, lC 2 ao r3.dirty, iC r2.1.gen, .sl 3 ([]), .sl 1 ([])]])]) <|.p 3 <|.ite ((r2.1.root == 0))
 (.p 1 <|.s (.o) <|.p 1 <|.ret (((⟨r3, r2.1.gen, (⟨[]⟩ : Tree), []⟩ : cj), 0)))
 (.p 3 <|.bnd (BZ p0 r2.1.root ([]) ([])) fun r4 er4 =>
 .s (.g (Ma p0 r2.1.root ([]) ([]) r4 er4) Tryz.call99 .nil) <|.p 10 <|.s (.o) <|.p 2 <|.s (.o) <|.jn false (ι := Bool) (fun j => ms 60 [(2, pV 2), (6, pV 6), (57, bV j)] [(2, [.bx [.sl 1 ([]), .sl 2 ([]), iC 0, .sl 3 ([]), .sl 1 ([])]]), (6, [.bx [lC 1 aj r3.sheets, lC 2 ao r3.dirty, iC r2.1.gen, lC 3 aa r4.1, lC 1 ah r4.2.1]])])
 (.p 3 <|.cut 52 (!r4.2.2)
 (.p 5 <|.ret true)
 (.p 2 <|.bnd (oM ((⟨r4.1⟩ : Tree))) fun r5 er5 =>
 .s (.ma (Ec ((⟨r4.1⟩ : Tree)) r5 er5) Tryz.call100 (aw)) <|.p 2 <|.ret (!r5))) fun j2 =>
 .ite (j2)
 (.p 3 <|.ret (((⟨(⟨[], []⟩ : bp), 0, (⟨[]⟩ : Tree), []⟩ : cj), 3)))
 (.p 1 <|.s (.o) <|.p 1 <|.ret (((⟨r3, r2.1.gen, (⟨r4.1⟩ : Tree), r4.2.1⟩ : cj), 0))))))
def oL (p0 : bp) : Option (cj × Int) := (qU p0).den
theorem Gc (p0 : bp) (v : cj × Int) (h : oL p0 = some v) : ab Tryz.prog 57 [.agg (sg p0)] (.tup [.agg [.so [] 0 0 (((v.1.disk.sheets).map aj).length), .so [] 0 1 (((v.1.disk.dirty).map ao).length), .c (iC v.1.gen), .so [] 0 2 (((v.1.tree.nodes).map aa).length), .so [] 0 3 (((v.1.places).map ah).length)], .one (.c (iC v.2))]) [lC 1 aj v.1.disk.sheets, lC 2 ao v.1.disk.dirty, lC 3 aa v.1.tree.nodes, lC 1 ah v.1.places] :=
 (qU p0).call aG Tryz.func57 rfl (res := (fun v => .tup [.agg [.so [] 0 0 (((v.1.disk.sheets).map aj).length), .so [] 0 1 (((v.1.disk.dirty).map ao).length), .c (iC v.1.gen), .so [] 0 2 (((v.1.tree.nodes).map aa).length), .so [] 0 3 (((v.1.places).map ah).length)], .one (.c (iC v.2))])) (row := (fun v => [lC 1 aj v.1.disk.sheets, lC 2 ao v.1.disk.dirty, lC 3 aa v.1.tree.nodes, lC 1 ah v.1.places])) (by kernel_rfl) h
def fh (p0 : Tree) (p1 : Tree) (s1 : Int) : Wk (Int ⊕ (Unit ⊕ (Bool))) :=
 .p 1 <|.ite (decide (s1 < ((p0.nodes.map aa).length : Int)))
 (.eb <|.p 2 <|.bnd (aB p0.nodes s1) fun x1 ex1 =>
 .bnd (aB p1.nodes s1) fun x2 ex2 =>
 .bnd (gQ x1 x2) fun r1 er1 =>
 .drawn [] [(3, .idx aa ex1), (8, .idx aa ex2), (10, .call (pR x1 x2 r1 er1) Tryz.call101)] (ms 32 [(2, pV 2), (3, pV 3), (15, iV ((p0.nodes.map aa).length : Int)), (16, iV s1), (30, bV (!r1))] [(2, [.bx [.fz (lC 3 aa p0.nodes)]]), (3, [.bx [.fz (lC 3 aa p1.nodes)]])]) <|.ite (!r1)
 (.p 1 <|.ret (.inr (.inr false)))
 (.p 2 <|.ret (.inl (IntKind.wrap .i64 (s1 + 1)))))
 (.ret (.inr (.inl (()))))
def mK (p0 : Tree) (p1 : Tree) : Wk (Bool) :=
 .p 10 <|.ite ((((p0.nodes.map aa).length : Int) != ((p1.nodes.map aa).length : Int)))
 (.p 1 <|.ret false)
 (.p 4 <|.join true (ι := Unit) (fun j => ms 32 [] [])
 (.eb <|.loop (σ := Int) (fun s1 => ms 32 [(2, pV 2), (3, pV 3), (15, iV ((p0.nodes.map aa).length : Int)), (16, iV s1)] [(2, [.bx [.fz (lC 3 aa p0.nodes)]]), (3, [.bx [.fz (lC 3 aa p1.nodes)]])]) 0 (fh p0 p1)) fun j1 =>
 .p 1 <|.ret true)
def gS (p0 : Tree) (p1 : Tree) : Option (Bool) := (mK p0 p1).den
theorem Bf (p0 : Tree) (p1 : Tree) (v : Bool) (h : gS p0 p1 = some v) : ab Tryz.prog 58 [.agg [.c (lC 3 aa p0.nodes)], .agg [.c (lC 3 aa p1.nodes)]] (bV v) [] :=
 (mK p0 p1).call aG Tryz.func58 rfl (res := (fun v => bV v)) (row := fun v => []) (by kernel_rfl) h
def fg (p0 : (List Int)) (p1 : (List Int)) (s1 : Int) : Wk (Int ⊕ (Unit ⊕ (Bool))) :=
 .p 1 <|.ite (decide (s1 < ((p0.map ah).length : Int)))
 (.eb <|.p 2 <|.bnd (aB p0 s1) fun x1 ex1 =>
 .bnd (aB p1 s1) fun x2 ex2 =>
 .drawn [] [(2, .idx ah ex1), (6, .idx ah ex2)] (ms 26 [(0, lV 1 ah p0), (1, lV 1 ah p1), (12, iV ((p0.map ah).length : Int)), (13, iV s1), (24, bV ((x1 != x2)))] []) <|.ite ((x1 != x2))
 (.p 1 <|.ret (.inr (.inr false)))
 (.p 2 <|.ret (.inl (IntKind.wrap .i64 (s1 + 1)))))
 (.ret (.inr (.inl (()))))
def mJ (p0 : (List Int)) (p1 : (List Int)) : Wk (Bool) :=
 .p 6 <|.ite ((((p0.map ah).length : Int) != ((p1.map ah).length : Int)))
 (.p 1 <|.ret false)
 (.p 3 <|.join true (ι := Unit) (fun j => ms 26 [] [])
 (.eb <|.loop (σ := Int) (fun s1 => ms 26 [(0, lV 1 ah p0), (1, lV 1 ah p1), (12, iV ((p0.map ah).length : Int)), (13, iV s1)] []) 0 (fg p0 p1)) fun j1 =>
 .p 1 <|.ret true)
def gR (p0 : (List Int)) (p1 : (List Int)) : Option (Bool) := (mJ p0 p1).den
theorem kY (p0 : (List Int)) (p1 : (List Int)) (v : Bool) (h : gR p0 p1 = some v) : ab Tryz.prog 25 [lV 1 ah p0, lV 1 ah p1] (bV v) [] :=
 (mJ p0 p1).call aG Tryz.func25 rfl (res := (fun v => bV v)) (row := fun v => []) (by kernel_rfl) h
def xz (p0 : cj) : Wk (Bool) :=
 .p 4 <|.bnd (oL p0.disk) fun r1 er1 =>
 .s (.call (Gc p0.disk r1 er1) Tryz.call57) <|.p 4 <|.s (.o) <|.p 1 <|.jn false (ι := Bool) (fun j => ms 34 [(2, bV j)] [])
 (.p 3 <|.cut 13 ((r1.2 == 0))
 (.p 7 <|.cut 20 ((r1.1.gen == p0.gen))
 (.p 4 <|.bnd (gS r1.1.tree p0.tree) fun r2 er2 =>
 .s (.ma (Bf r1.1.tree p0.tree r2 er2) Tryz.call58 (aw)) <|.p 2 <|.cut 27 (r2)
 (.p 4 <|.bnd (gR r1.1.places p0.places) fun r3 er3 =>
 .s (.ma (kY r1.1.places p0.places r3 er3) Tryz.call25 (aw)) <|.p 2 <|.ret r3)
 (.p 7 <|.ret false))
 (.p 14 <|.ret false))
 (.p 21 <|.ret false)) fun j1 =>
 .ret j1
def vr (p0 : cj) : Option (Bool) := (xz p0).den
theorem kX (p0 : cj) (v : Bool) (h : vr p0 = some v) : ab Tryz.prog 15 [.agg (DA p0)] (bV v) [] :=
 (xz p0).call aG Tryz.func15 rfl (res := (fun v => bV v)) (row := fun v => []) (by kernel_rfl) h
def sd (p0 : Tree) : Wk ((List az)) :=
 .p 3 <|.bnd (oM p0) fun r1 er1 =>
 .s (.call (Ec p0 r1 er1) Tryz.call100) <|.p 1 <|.ite (!r1)
 (.p 1 <|.im (.Gv 2 2 2) <|.ret ([]))
 (.p 1 <|.bnd (ll p0) fun r2 er2 =>
 .s (.call (Bc p0 r2 er2) Tryz.call103) <|.p 7 <|.bnd (ng r2.1) fun r3 er3 =>
 .s (.call (yw r2.1 r3 er3) Tryz.call104) <|.p 1 <|.ret r3)
def lh (p0 : Tree) : Option ((List az)) := (sd p0).den
theorem LV (p0 : Tree) (v : (List az)) (h : lh p0 = some v) : ab Tryz.prog 64 [.agg [.c (lC 3 aa p0.nodes)]] (.one (.so [] 0 0 (((v).map af).length))) [lC 2 af v] :=
 (sd p0).call aG Tryz.func64 rfl (res := (fun v => .one (.so [] 0 0 (((v).map af).length)))) (row := (fun v => [lC 2 af v])) (by kernel_rfl) h
def lH (p1 : ByteArray) (r2 : (List az)) (s1 : Int) : Wk (Int ⊕ (Unit ⊕ (ByteArray × Bool))) :=
 .p 1 <|.ite (decide (s1 < ((r2.map af).length : Int)))
 (.eb <|.bnd (aB r2 s1) fun x1 ex1 =>
 .s (.ixo af ex1) <|.s (.ld af (bO ex1).2) <|.p 6 <|.ite ((x1.key.toList == p1.toList))
 (.p 4 <|.ret (.inr (.inr ((x1.val, true)))))
 (.p 2 <|.ret (.inl (IntKind.wrap .i64 (s1 + 1)))))
 (.ret (.inr (.inl (()))))
def xB (p0 : Tree) (p1 : ByteArray) : Wk (ByteArray × Bool) :=
 .p 4 <|.bnd (tp p1) fun r1 er1 =>
 .s (.call (kV p1 r1 er1) Tryz.call63) <|.p 1 <|.ite (!r1)
 (.p 2 <|.ret (((⟨#[]⟩ : ByteArray), false)))
 (.p 1 <|.bnd (lh p0) fun r2 er2 =>
 .s (.call (LV p0 r2 er2) Tryz.call64) <|.p 2 <|.join true (ι := Unit) (fun j => ms 25 [] [])
 (.eb <|.loop (σ := Int) (fun s1 => ms 25 [(1, sV p1), (12, .one (.so [] 12 0 (((r2).map af).length))), (13, iV ((r2.map af).length : Int)), (14, iV s1)] [(12, [lC 2 af r2])]) 0 (lH p1 r2)) fun j1 =>
 .p 2 <|.ret (((⟨#[]⟩ : ByteArray), false)))
def lk (p0 : Tree) (p1 : ByteArray) : Option (ByteArray × Bool) := (xB p0 p1).den
theorem td (p0 : Tree) (p1 : ByteArray) (v : ByteArray × Bool) (h : lk p0 p1 = some v) : ab Tryz.prog 23 [.agg [.c (lC 3 aa p0.nodes)], sV p1] (.tup [.one (.c (sC v.1)), .one (.c (bC v.2))]) [] :=
 (xB p0 p1).call aG Tryz.func23 rfl (res := (fun v => .tup [.one (.c (sC v.1)), .one (.c (bC v.2))])) (row := fun v => []) (by kernel_rfl) h
abbrev Wi (recF : Int -> Option (ByteArray)) : Prop := ∀ (p0 : Int) (v : ByteArray), recF p0 = some v -> ab Tryz.prog 68 [iV p0] (sV v) []
def dq (recF : Int -> Option (ByteArray)) (hrec : Wi recF) (p0 : Int) : Wk (ByteArray) :=
 .p 2 <|.bnd (kg p0) fun r1 er1 =>
 .s (.call (kt p0 r1 er1) Tryz.call18) <|.p 1 <|.ite (!r1)
 (.p 1 <|.ret ((⟨#[]⟩ : ByteArray)))
 (.p 2 <|.ite (decide (p0 < 10))
 (.p 6 <|.ret (sP (IntKind.wrap .u8 (IntKind.wrap .i64 (48 + p0)))))
 (.bnd (recF (IntKind.wrap .i64 (Int.tdiv p0 10))) fun r2 er2 =>
 .chk ((r2.size + (sP (IntKind.wrap .u8 (IntKind.wrap .i64 (48 + (Int.tmod p0 10))))).size <= 140737488355328)) fun c1 =>
 .drawn [] [(2, .call (hrec (IntKind.wrap .i64 (Int.tdiv p0 10)) r2 er2) Tryz.call68), (9, .q c1)] (ms 23 [(2, sV (r2 ++ (sP (IntKind.wrap .u8 (IntKind.wrap .i64 (48 + (Int.tmod p0 10)))))))] []) <|.ret (r2 ++ (sP (IntKind.wrap .u8 (IntKind.wrap .i64 (48 + (Int.tmod p0 10))))))))
theorem IZ (recF : Int -> Option (ByteArray)) (hrec : Wi recF) (p0 : Int) (v : ByteArray) (h : (dq recF hrec p0).den = some v) : ab Tryz.prog 68 [iV p0] (sV v) [] :=
 (dq recF hrec p0).call aG Tryz.func68 rfl (res := (fun v => sV v)) (row := fun v => []) (by kernel_rfl) h
def bw : Nat -> { recF : Int -> Option (ByteArray) // Wi recF }
 | 0 => ⟨fun _ => none, fun _ _ h => nomatch h⟩
 | k + 1 => ⟨fun p0 => (dq (bw k).1 (bw k).2 p0).den, fun p0 v h => IZ (bw k).1 (bw k).2 p0 v h⟩
def lb (p0 : Int) : Option (ByteArray) := lim fun k => (bw k).1 p0
theorem kW (p0 : Int) (v : ByteArray) (h : lb p0 = some v) : ab Tryz.prog 68 [iV p0] (sV v) [] := by
 obtain ⟨k, hk⟩ := Bx h
 exact (bw k).2 p0 v hk
structure fP where
 v4 : Int
 v5 : Int
def px (p0 : ByteArray) (s1 : fP) : Wk (fP ⊕ (Int ⊕ (Int × Bool))) :=
 .p 4 <|.ite (decide (s1.v5 < ((p0.size : Int))))
 (.eb <|.jn false (ι := Bool) (fun j => ms 48 [(0, sV p0), (4, iV s1.v4), (5, iV s1.v5), (29, bV j)] [])
 (.p 2 <|.chk ((0 <= s1.v5 /\ s1.v5 < (p0.size : Int))) fun c1 =>
 .s (.q c1) <|.p 2 <|.cut 24 (decide ((bD p0 s1.v5) < 48))
 (.p 5 <|.ret true)
 (.p 2 <|.chk ((0 <= s1.v5 /\ s1.v5 < (p0.size : Int))) fun c2 =>
 .s (.q c2) <|.p 2 <|.ret (decide ((bD p0 s1.v5) > 57)))) fun j2 =>
 .ite (j2)
 (.p 2 <|.ret (.inr (.inr ((0, false)))))
 (.p 4 <|.chk ((0 <= s1.v5 /\ s1.v5 < (p0.size : Int))) fun c3 =>
 .s (.q c3) <|.p 7 <|.ret (.inl ((⟨IntKind.wrap .i64 ((IntKind.wrap .i64 (s1.v4 * 10)) + (IntKind.wrap .i64 (IntKind.wrap .u8 ((bD p0 s1.v5) - 48)))), IntKind.wrap .i64 (s1.v5 + 1)⟩ : fP)))))
 (.ret (.inr (.inl s1.v4)))
def xA (p0 : ByteArray) : Wk (Int × Bool) :=
 .p 2 <|.jn false (ι := Bool) (fun j => ms 48 [(0, sV p0), (13, bV j)] [])
 (.p 4 <|.cut 9 (decide (((p0.size : Int)) < 1))
 (.p 4 <|.ret true)
 (.p 4 <|.ret (decide (((p0.size : Int)) > 13)))) fun j1 =>
 .ite (j1)
 (.p 2 <|.ret ((0, false)))
 (.p 2 <|.join true (ι := Int) (fun j => ms 48 [(0, sV p0), (4, iV j)] [])
 (.eb <|.loop (σ := fP) (fun s1 => ms 48 [(0, sV p0), (4, iV s1.v4), (5, iV s1.v5)] []) ((⟨0, 0⟩ : fP)) (px p0)) fun j3 =>
 .jn false (ι := Bool) (fun j => ms 48 [(4, iV j3), (46, bV j)] [])
 (.p 1 <|.bnd (kg j3) fun r1 er1 =>
 .s (.call (kt j3 r1 er1) Tryz.call18) <|.p 2 <|.cut 41 (!r1)
 (.p 5 <|.ret true)
 (.p 1 <|.bnd (lb j3) fun r2 er2 =>
 .s (.call (kW j3 r2 er2) Tryz.call68) <|.p 3 <|.ret (!(r2.toList == p0.toList)))) fun j4 =>
 .ite (j4)
 (.p 2 <|.ret ((0, false)))
 (.p 3 <|.ret ((j3, true))))
def qo (p0 : ByteArray) : Option (Int × Bool) := (xA p0).den
theorem Bb (p0 : ByteArray) (v : Int × Bool) (h : qo p0 = some v) : ab Tryz.prog 59 [sV p0] (.tup [.one (.c (iC v.1)), .one (.c (bC v.2))]) [] :=
 (xA p0).call aG Tryz.func59 rfl (res := (fun v => .tup [.one (.c (iC v.1)), .one (.c (bC v.2))])) (row := fun v => []) (by kernel_rfl) h
def tO (p0 : Tree) : Wk (Int) :=
 .p 3 <|.bnd (lk p0 ((⟨#[101]⟩ : ByteArray))) fun r1 er1 =>
 .s (.call (td p0 ((⟨#[101]⟩ : ByteArray)) r1 er1) Tryz.call23) <|.p 6 <|.bnd (qo r1.1) fun r2 er2 =>
 .s (.call (Bb r1.1 r2 er2) Tryz.call59) <|.p 5 <|.jn false (ι := Bool) (fun j => ms 24 [(5, iV r2.1), (22, bV j)] [])
 (.p 3 <|.cut 19 (!r2.2)
 (.p 3 <|.ret true)
 (.p 3 <|.ret (decide (r2.1 > 999)))) fun j1 =>
 .ite (j1)
 (.p 1 <|.ret 0)
 (.p 2 <|.ret r2.1)
def rP (p0 : Tree) : Option (Int) := (tO p0).den
theorem pS (p0 : Tree) (v : Int) (h : rP p0 = some v) : ab Tryz.prog 16 [.agg [.c (lC 3 aa p0.nodes)]] (iV v) [] :=
 (tO p0).call aG Tryz.func16 rfl (res := (fun v => iV v)) (row := fun v => []) (by kernel_rfl) h
def jP (p0 : (List Int)) (p1 : (List Int)) (s1 : Int) : Wk (Int ⊕ (Unit ⊕ (Bool))) :=
 .p 1 <|.ite (decide (s1 < ((p0.map ah).length : Int)))
 (.eb <|.p 1 <|.bnd (aB p0 s1) fun x1 ex1 =>
 .s (.idx ah ex1) <|.p 3 <|.jn false (ι := Bool) (fun j => ms 43 [(0, lV 1 ah p0), (1, lV 1 ah p1), (7, lV 1 ah p0), (8, iV ((p0.map ah).length : Int)), (9, iV s1), (41, bV j)] [])
 (.p 3 <|.cut 16 (decide (x1 < 0))
 (.p 25 <|.ret true)
 (.p 6 <|.cut 22 (decide (x1 >= ((p1.map ah).length : Int)))
 (.p 19 <|.ret true)
 (.p 2 <|.bnd (aB p1 x1) fun x2 ex2 =>
 .s (.idx ah ex2) <|.p 4 <|.cut 29 ((x2 == 0))
 (.p 12 <|.ret true)
 (.p 3 <|.cut 32 (decide (s1 > 0))
 (.p 3 <|.bnd (aB p0 (IntKind.wrap .i64 (s1 - 1))) fun x3 ex3 =>
 .s (.idx ah ex3) <|.p 5 <|.ret (decide (x3 >= x1)))
 (.p 9 <|.ret false))))) fun j1 =>
 .ite (j1)
 (.p 1 <|.ret (.inr (.inr false)))
 (.p 2 <|.ret (.inl (IntKind.wrap .i64 (s1 + 1)))))
 (.ret (.inr (.inl (()))))
def tP (p0 : (List Int)) (p1 : (List Int)) : Wk (Bool) :=
 .p 4 <|.join true (ι := Unit) (fun j => ms 43 [] [])
 (.eb <|.loop (σ := Int) (fun s1 => ms 43 [(0, lV 1 ah p0), (1, lV 1 ah p1), (7, lV 1 ah p0), (8, iV ((p0.map ah).length : Int)), (9, iV s1)] []) 0 (jP p0 p1)) fun j2 =>
 .p 1 <|.ret true
def rQ (p0 : (List Int)) (p1 : (List Int)) : Option (Bool) := (tP p0 p1).den
theorem Jw (p0 : (List Int)) (p1 : (List Int)) (v : Bool) (h : rQ p0 p1 = some v) : ab Tryz.prog 19 [lV 1 ah p0, lV 1 ah p1] (bV v) [] :=
 (tP p0 p1).call aG Tryz.func19 rfl (res := (fun v => bV v)) (row := fun v => []) (by kernel_rfl) h
def No (p0 : Tx) : Wk (Bool) :=
 .p 2 <|.jn false (ι := Bool) (fun j => ms 31 [(2, bV j)] [])
 (.p 4 <|.cut 6 (decide (p0.c >= 0))
 (.p 5 <|.cut 11 (decide (p0.c <= 7))
 (.p 5 <|.cut 16 (decide (p0.e >= 1))
 (.p 5 <|.cut 21 (decide (p0.e <= 999))
 (.p 5 <|.cut 26 (decide (p0.n >= 1))
 (.p 5 <|.ret (decide (p0.n <= 999)))
 (.p 5 <|.ret false))
 (.p 10 <|.ret false))
 (.p 15 <|.ret false))
 (.p 20 <|.ret false))
 (.p 25 <|.ret false)) fun j1 =>
 .ret j1
def Ez (p0 : Tx) : Option (Bool) := (No p0).den
theorem Gd (p0 : Tx) (v : Bool) (h : Ez p0 = some v) : ab Tryz.prog 20 [.agg (aTx p0)] (bV v) [] :=
 (No p0).call aG Tryz.func20 rfl (res := (fun v => bV v)) (row := fun v => []) (by kernel_rfl) h
def xy (p0 : Range) : Wk (Bool) :=
 .p 2 <|.jn false (ι := Bool) (fun j => ms 23 [(1, pV 1), (12, bV j)] [(1, [.bx (DI p0)])])
 (.p 5 <|.cut 7 (decide (((p0.lo.size : Int)) > 17))
 (.p 5 <|.ret true)
 (.p 5 <|.ret (decide (((p0.hi.size : Int)) > 17)))) fun j1 =>
 .ite (j1)
 (.p 1 <|.ret false)
 (.jn false (ι := Bool) (fun j => ms 23 [(2, bV j)] [])
 (.p 4 <|.cut 16 ((p0.hi.toList == ((⟨#[]⟩ : ByteArray)).toList))
 (.p 7 <|.ret true)
 (.p 7 <|.ret (Op.bytesLess p0.lo.toList p0.hi.toList))) fun j2 =>
 .ret j2)
def nf (p0 : Range) : Option (Bool) := (xy p0).den
theorem LS (p0 : Range) (v : Bool) (h : nf p0 = some v) : ab Tryz.prog 102 [.agg (sy p0)] (bV v) [] :=
 (xy p0).call aG Tryz.func102 rfl (res := (fun v => bV v)) (row := fun v => []) (by kernel_rfl) h
def sa (p0 : Range) : Wk (Bool) :=
 .p 2 <|.jn false (ι := Bool) (fun j => ms 17 [(2, bV j)] [])
 (.p 1 <|.bnd (nf p0) fun r1 er1 =>
 .s (.call (LS p0 r1 er1) Tryz.call102) <|.p 1 <|.cut 5 (r1)
 (.p 6 <|.cut 11 (decide (((p0.lo.size : Int)) <= 9))
 (.p 6 <|.ret (decide (((p0.hi.size : Int)) <= 9)))
 (.p 6 <|.ret false))
 (.p 12 <|.ret false)) fun j1 =>
 .ret j1
def lg (p0 : Range) : Option (Bool) := (sa p0).den
theorem LU (p0 : Range) (v : Bool) (h : lg p0 = some v) : ab Tryz.prog 60 [.agg (sy p0)] (bV v) [] :=
 (sa p0).call aG Tryz.func60 rfl (res := (fun v => bV v)) (row := fun v => []) (by kernel_rfl) h
def CJ (p0 : ByteArray) : Wk (Bool) :=
 .p 5 <|.ret (decide (((p0.size : Int)) <= 20))
def vu (p0 : ByteArray) : Option (Bool) := (CJ p0).den
theorem Ee (p0 : ByteArray) (v : Bool) (h : vu p0 = some v) : ab Tryz.prog 61 [sV p0] (bV v) [] :=
 (CJ p0).call aG Tryz.func61 rfl (res := (fun v => bV v)) (row := fun v => []) (by kernel_rfl) h
def zN (p0 : Ask) : Wk (Bool) :=
 .p 8 <|.ite ((p0.kind == 4))
 (.jn false (ι := Bool) (fun j => ms 73 [(2, bV j)] [])
 (.p 4 <|.cut 11 ((p0.key.toList == ((⟨#[]⟩ : ByteArray)).toList))
 (.p 5 <|.cut 16 ((p0.val.toList == ((⟨#[]⟩ : ByteArray)).toList))
 (.p 2 <|.bnd (lg p0.range) fun r1 er1 =>
 .s (.call (LU p0.range r1 er1) Tryz.call60) <|.p 2 <|.cut 21 (r1)
 (.p 5 <|.cut 26 (decide (p0.most >= 1))
 (.p 5 <|.ret (decide (p0.most <= 8)))
 (.p 5 <|.ret false))
 (.p 10 <|.ret false))
 (.p 15 <|.ret false))
 (.p 20 <|.ret false)) fun j1 =>
 .ret j1)
 (.jn false (ι := Bool) (fun j => ms 73 [(1, pV 1), (3, pV 3), (38, bV j)] [(1, [.bx (XH p0)]), (3, [.bx [sC ((⟨#[]⟩ : ByteArray)), sC ((⟨#[]⟩ : ByteArray))]])])
 (.p 4 <|.cut 34 ((p0.kind != 2))
 (.p 4 <|.ret (!(p0.val.toList == ((⟨#[]⟩ : ByteArray)).toList)))
 (.p 4 <|.ret false)) fun j2 =>
 .ite (j2)
 (.p 1 <|.ret false)
 (.jn false (ι := Bool) (fun j => ms 73 [(2, bV j)] [])
 (.p 4 <|.cut 42 (decide (p0.kind >= 1))
 (.p 5 <|.cut 47 (decide (p0.kind <= 3))
 (.p 2 <|.bnd (rL p0.key) fun r1 er1 =>
 .s (.call (wK p0.key r1 er1) Tryz.call55) <|.p 2 <|.cut 52 (r1)
 (.p 2 <|.bnd (vu p0.val) fun r2 er2 =>
 .s (.call (Ee p0.val r2 er2) Tryz.call61) <|.p 2 <|.cut 57 (r2)
 (.p 6 <|.cut 63 (((p0.range.lo.toList == ((⟨#[]⟩ : ByteArray)).toList) && ((p0.range.hi.toList == ((⟨#[]⟩ : ByteArray)).toList) && true)))
 (.p 5 <|.cut 68 ((p0.most == 0))
 (.p 5 <|.ret (!p0.back))
 (.p 5 <|.ret false))
 (.p 10 <|.ret false))
 (.p 16 <|.ret false))
 (.p 21 <|.ret false))
 (.p 26 <|.ret false))
 (.p 31 <|.ret false)) fun j3 =>
 .ret j3))
def qi (p0 : Ask) : Option (Bool) := (zN p0).den
theorem Jo (p0 : Ask) (v : Bool) (h : qi p0 = some v) : ab Tryz.prog 21 [.agg (VD p0)] (bV v) [] :=
 (zN p0).call aG Tryz.func21 rfl (res := (fun v => bV v)) (row := fun v => []) (by kernel_rfl) h
def tN (p0 : Int) : Wk (Bool) :=
 .p 1 <|.jn false (ι := Bool) (fun j => ms 9 [(2, bV j)] [])
 (.p 3 <|.cut 5 (decide (p0 >= 1))
 (.p 4 <|.ret (decide (p0 <= 16)))
 (.p 4 <|.ret false)) fun j1 =>
 .ret j1
def rO (p0 : Int) : Option (Bool) := (tN p0).den
theorem Jv (p0 : Int) (v : Bool) (h : rO p0 = some v) : ab Tryz.prog 62 [iV p0] (bV v) [] :=
 (tN p0).call aG Tryz.func62 rfl (res := (fun v => bV v)) (row := fun v => []) (by kernel_rfl) h
def mM (p0 : Msg) (s1 : Int) : Wk (Int ⊕ (Unit ⊕ (Bool))) :=
 .p 1 <|.ite (decide (s1 < ((p0.pairs.map af).length : Int)))
 (.eb <|.bnd (aB p0.pairs s1) fun x1 ex1 =>
 .s (.idx af ex1) <|.p 3 <|.jn false (ι := Bool) (fun j => ms 177 [(1, pV 1), (113, lV 2 af p0.pairs), (114, iV ((p0.pairs.map af).length : Int)), (115, iV s1), (128, bV j)] [(1, [.bx (we p0)])])
 (.p 2 <|.bnd (rL x1.key) fun r2 er2 =>
 .s (.call (wK x1.key r2 er2) Tryz.call55) <|.p 2 <|.cut 123 (!r2)
 (.p 5 <|.ret true)
 (.p 2 <|.bnd (vu x1.val) fun r3 er3 =>
 .s (.call (Ee x1.val r3 er3) Tryz.call61) <|.p 2 <|.ret (!r3))) fun j6 =>
 .ite (j6)
 (.p 1 <|.ret (.inr (.inr false)))
 (.p 2 <|.ret (.inl (IntKind.wrap .i64 (s1 + 1)))))
 (.ret (.inr (.inl (()))))
def HF (p0 : Msg) : Wk (Bool) :=
 .p 5 <|.jn false (ι := Bool) (fun j => ms 177 [(1, pV 1), (3, pV 3), (32, bV j)] [(1, [.bx (we p0)]), (3, [.bx [iC 0, sC ((⟨#[]⟩ : ByteArray)), sC ((⟨#[]⟩ : ByteArray)), sC ((⟨#[]⟩ : ByteArray)), sC ((⟨#[]⟩ : ByteArray)), iC 0, bC false]])])
 (.p 2 <|.bnd (Ez p0.tx) fun r1 er1 =>
 .s (.call (Gd p0.tx r1 er1) Tryz.call20) <|.p 2 <|.cut 13 (!r1)
 (.p 19 <|.ret true)
 (.p 5 <|.cut 18 (decide (p0.shard < 0))
 (.p 14 <|.ret true)
 (.p 5 <|.cut 23 (decide (p0.shard >= 4))
 (.p 9 <|.ret true)
 (.p 5 <|.cut 28 (decide (p0.kind < 1))
 (.p 4 <|.ret true)
 (.p 4 <|.ret (decide (p0.kind > 7))))))) fun j1 =>
 .ite (j1)
 (.p 1 <|.ret false)
 (.jn false (ι := Bool) (fun j => ms 177 [(1, pV 1), (3, pV 3), (4, bV j)] [(1, [.bx (we p0)]), (3, [.bx [iC 0, sC ((⟨#[]⟩ : ByteArray)), sC ((⟨#[]⟩ : ByteArray)), sC ((⟨#[]⟩ : ByteArray)), sC ((⟨#[]⟩ : ByteArray)), iC 0, bC false]])])
 (.p 4 <|.cut 36 ((p0.kind == 1))
 (.p 10 <|.ret true)
 (.p 5 <|.cut 41 ((p0.kind == 2))
 (.p 5 <|.ret true)
 (.p 5 <|.ret ((p0.kind == 3))))) fun j2 =>
 .jn false (ι := Bool) (fun j => ms 177 [(1, pV 1), (3, pV 3), (61, bV j)] [(1, [.bx (we p0)]), (3, [.bx [iC 0, sC ((⟨#[]⟩ : ByteArray)), sC ((⟨#[]⟩ : ByteArray)), sC ((⟨#[]⟩ : ByteArray)), sC ((⟨#[]⟩ : ByteArray)), iC 0, bC false]])])
 (.p 2 <|.cut 47 (j2)
 (.p 2 <|.bnd (rO p0.num) fun r2 er2 =>
 .s (.call (Jv p0.num r2 er2) Tryz.call62) <|.p 3 <|.cut 53 (!r2)
 (.p 8 <|.ret true)
 (.p 3 <|.cut 56 (!j2)
 (.p 5 <|.ret ((p0.num != 0)))
 (.p 5 <|.ret false)))
 (.p 9 <|.cut 56 (!j2)
 (.p 5 <|.ret ((p0.num != 0)))
 (.p 5 <|.ret false))) fun j3 =>
 .ite (j3)
 (.p 1 <|.ret false)
 (.jn false (ι := Bool) (fun j => ms 177 [(1, pV 1), (81, bV j)] [(1, [.bx (we p0)])])
 (.p 4 <|.cut 65 ((p0.kind == 1))
 (.p 2 <|.bnd (qi p0.ask) fun r2 er2 =>
 .s (.call (Jo p0.ask r2 er2) Tryz.call21) <|.p 3 <|.cut 71 (!r2)
 (.p 10 <|.ret true)
 (.p 4 <|.cut 75 ((p0.kind != 1))
 (.p 6 <|.ret (!((p0.ask.kind == 0) && ((p0.ask.key.toList == ((⟨#[]⟩ : ByteArray)).toList) && ((p0.ask.val.toList == ((⟨#[]⟩ : ByteArray)).toList) && ((p0.ask.range.lo.toList == ((⟨#[]⟩ : ByteArray)).toList) && ((p0.ask.range.hi.toList == ((⟨#[]⟩ : ByteArray)).toList) && ((p0.ask.most == 0) && ((p0.ask.back == false) && true)))))))))
 (.p 6 <|.ret false)))
 (.p 10 <|.cut 75 ((p0.kind != 1))
 (.p 6 <|.ret (!((p0.ask.kind == 0) && ((p0.ask.key.toList == ((⟨#[]⟩ : ByteArray)).toList) && ((p0.ask.val.toList == ((⟨#[]⟩ : ByteArray)).toList) && ((p0.ask.range.lo.toList == ((⟨#[]⟩ : ByteArray)).toList) && ((p0.ask.range.hi.toList == ((⟨#[]⟩ : ByteArray)).toList) && ((p0.ask.most == 0) && ((p0.ask.back == false) && true)))))))))
 (.p 6 <|.ret false))) fun j4 =>
 .ite (j4)
 (.p 1 <|.ret false)
 (.jn false (ι := Bool) (fun j => ms 177 [(1, pV 1), (111, bV j)] [(1, [.bx (we p0)])])
 (.p 4 <|.cut 85 ((p0.kind != 2))
 (.p 4 <|.cut 89 ((p0.code != 0))
 (.p 22 <|.ret true)
 (.p 7 <|.cut 96 (decide (((p0.pairs.map af).length : Int) > 0))
 (.p 15 <|.ret true)
 (.p 5 <|.cut 101 (decide (p0.code < 0))
 (.p 10 <|.ret true)
 (.p 5 <|.cut 106 (decide (p0.code > 9))
 (.p 5 <|.ret true)
 (.p 5 <|.ret (decide (((p0.pairs.map af).length : Int) > 8)))))))
 (.p 16 <|.cut 101 (decide (p0.code < 0))
 (.p 10 <|.ret true)
 (.p 5 <|.cut 106 (decide (p0.code > 9))
 (.p 5 <|.ret true)
 (.p 5 <|.ret (decide (((p0.pairs.map af).length : Int) > 8)))))) fun j5 =>
 .ite (j5)
 (.p 1 <|.ret false)
 (.p 4 <|.join true (ι := Unit) (fun j => ms 177 [(1, pV 1)] [(1, [.bx (we p0)])])
 (.eb <|.loop (σ := Int) (fun s1 => ms 177 [(1, pV 1), (113, lV 2 af p0.pairs), (114, iV ((p0.pairs.map af).length : Int)), (115, iV s1)] [(1, [.bx (we p0)])]) 0 (mM p0)) fun j7 =>
 .jn false (ι := Bool) (fun j => ms 177 [(1, pV 1), (7, bV j)] [(1, [.bx (we p0)])])
 (.p 4 <|.cut 133 ((p0.kind == 3))
 (.p 10 <|.ret true)
 (.p 4 <|.cut 137 ((p0.kind == 2))
 (.p 6 <|.ret ((p0.code == 0)))
 (.p 6 <|.ret false))) fun j8 =>
 .jn false (ι := Bool) (fun j => ms 177 [(1, pV 1), (163, bV j)] [(1, [.bx (we p0)])])
 (.p 2 <|.cut 144 (j8)
 (.p 4 <|.cut 148 (decide (p0.stamp < 1))
 (.p 15 <|.ret true)
 (.p 2 <|.bnd (kg p0.stamp) fun r4 er4 =>
 .s (.call (kt p0.stamp r4 er4) Tryz.call18) <|.p 4 <|.cut 155 (!r4)
 (.p 8 <|.ret true)
 (.p 3 <|.cut 158 (!j8)
 (.p 5 <|.ret ((p0.stamp != 0)))
 (.p 5 <|.ret false))))
 (.p 14 <|.cut 158 (!j8)
 (.p 5 <|.ret ((p0.stamp != 0)))
 (.p 5 <|.ret false))) fun j9 =>
 .ite (j9)
 (.p 1 <|.ret false)
 (.jn false (ι := Bool) (fun j => ms 177 [(2, bV j)] [])
 (.p 4 <|.cut 167 (!p0.yes)
 (.p 10 <|.ret true)
 (.p 5 <|.cut 172 ((p0.kind == 4))
 (.p 5 <|.ret true)
 (.p 5 <|.ret ((p0.kind == 5))))) fun j10 =>
 .ret j10)))))
def GS (p0 : Msg) : Option (Bool) := (HF p0).den
theorem Sq (p0 : Msg) (v : Bool) (h : GS p0 = some v) : ab Tryz.prog 22 [.agg (TW p0)] (bV v) [] :=
 (HF p0).call aG Tryz.func22 rfl (res := (fun v => bV v)) (row := fun v => []) (by kernel_rfl) h
structure jU where
 v5 : (List ByteArray)
 v6 : Int
structure ew where
 v5 : (List ByteArray)
 v6 : Int
 v7 : Int
structure oc where
 v5 : (List ByteArray)
 v6 : Int
def nL (p0 : ByteArray) (p1 : Int) (s1 : ew) : Wk (ew ⊕ jU) :=
 .p 4 <|.ite (decide (s1.v7 < ((p0.size : Int))))
 (.eb <|.p 2 <|.chk ((0 <= s1.v7 /\ s1.v7 < (p0.size : Int))) fun c1 =>
 .s (.q c1) <|.p 2 <|.jn false (ι := oc) (fun j => ms 35 [(0, sV p0), (1, .one (.c (.v (.int .u8 p1)))), (5, .one (.so [] 5 0 (((j.v5).map aq).length))), (6, iV j.v6), (7, iV s1.v7)] [(5, [lC 1 aq j.v5])])
 (.ite (((bD p0 s1.v7) == p1))
 (.p 4 <|.chk ((0 <= (s1.v6 : Int) /\ (s1.v6 : Int) <= s1.v7 /\ s1.v7 <= (p0.size : Int))) fun c2 =>
 .s (.q c2) <|.p 1 <|.chk (((s1.v5).length + (([p0.extract (s1.v6 : Int).toNat s1.v7.toNat] : List ByteArray)).length) * 16 <= 140737488355328) fun c3 =>
 .s (.app aq .lit c3) <|.p 4 <|.im (.ren 26 5 5) <|.ret ((⟨s1.v5 ++ ([p0.extract (s1.v6 : Int).toNat s1.v7.toNat] : List ByteArray), IntKind.wrap .i64 (s1.v7 + 1)⟩ : oc)))
 (.ret ((⟨s1.v5, s1.v6⟩ : oc)))) fun j1 =>
 .p 3 <|.ret (.inl ((⟨j1.v5, j1.v6, IntKind.wrap .i64 (s1.v7 + 1)⟩ : ew))))
 (.ret (.inr ((⟨s1.v5, s1.v6⟩ : jU))))
def tM (p0 : ByteArray) (p1 : Int) : Wk ((List ByteArray)) :=
 .p 5 <|.jn true (ι := jU) (fun j => ms 35 [(0, sV p0), (5, .one (.so [] 5 0 (((j.v5).map aq).length))), (6, iV j.v6)] [(5, [lC 1 aq j.v5])])
 (.eb <|.im (.ren 8 5 5) <|.loop (σ := ew) (fun s1 => ms 35 [(0, sV p0), (1, .one (.c (.v (.int .u8 p1)))), (5, .one (.so [] 5 0 (((s1.v5).map aq).length))), (6, iV s1.v6), (7, iV s1.v7)] [(5, [lC 1 aq s1.v5])]) ((⟨[], 0, 0⟩ : ew)) (nL p0 p1)) fun j2 =>
 .p 3 <|.chk ((0 <= (j2.v6 : Int) /\ (j2.v6 : Int) <= (p0.size : Int) /\ (p0.size : Int) <= (p0.size : Int))) fun c4 =>
 .s (.q c4) <|.p 1 <|.chk (((j2.v5).length + (([p0.extract (j2.v6 : Int).toNat ((p0.size : Int)).toNat] : List ByteArray)).length) * 16 <= 140737488355328) fun c5 =>
 .s (.app aq .lit c5) <|.p 1 <|.im (.frz [] 34 0 4) <|.ret (j2.v5 ++ ([p0.extract (j2.v6 : Int).toNat ((p0.size : Int)).toNat] : List ByteArray))
def iB (p0 : ByteArray) (p1 : Int) : Option ((List ByteArray)) := (tM p0 p1).den
theorem yx (p0 : ByteArray) (p1 : Int) (v : (List ByteArray)) (h : iB p0 p1 = some v) : ab Tryz.prog 65 [sV p0, .one (.c (.v (.int .u8 p1)))] (lV 1 aq v) [] :=
 (tM p0 p1).call aG Tryz.func65 rfl (res := (fun v => lV 1 aq v)) (row := fun v => []) (by kernel_rfl) h
def CH (p0 : Tx) : Wk (ByteArray) :=
 .p 3 <|.bnd (Ez p0) fun r1 er1 =>
 .s (.call (Gd p0 r1 er1) Tryz.call20) <|.p 1 <|.ite (!r1)
 (.p 1 <|.ret ((⟨#[]⟩ : ByteArray)))
 (.bnd (lb p0.c) fun r2 er2 =>
 .chk ((r2.size + ((⟨#[46]⟩ : ByteArray)).size <= 140737488355328)) fun c1 =>
 .bnd (lb p0.e) fun r3 er3 =>
 .chk (((r2 ++ ((⟨#[46]⟩ : ByteArray))).size + r3.size <= 140737488355328)) fun c2 =>
 .chk ((((r2 ++ ((⟨#[46]⟩ : ByteArray))) ++ r3).size + ((⟨#[46]⟩ : ByteArray)).size <= 140737488355328)) fun c3 =>
 .bnd (lb p0.n) fun r4 er4 =>
 .chk (((((r2 ++ ((⟨#[46]⟩ : ByteArray))) ++ r3) ++ ((⟨#[46]⟩ : ByteArray))).size + r4.size <= 140737488355328)) fun c4 =>
 .drawn [] [(2, .call (kW p0.c r2 er2) Tryz.call68), (3, .q c1), (6, .call (kW p0.e r3 er3) Tryz.call68), (7, .q c2), (8, .q c3), (11, .call (kW p0.n r4 er4) Tryz.call68), (12, .q c4)] (ms 19 [(2, sV ((((r2 ++ ((⟨#[46]⟩ : ByteArray))) ++ r3) ++ ((⟨#[46]⟩ : ByteArray))) ++ r4))] []) <|.ret ((((r2 ++ ((⟨#[46]⟩ : ByteArray))) ++ r3) ++ ((⟨#[46]⟩ : ByteArray))) ++ r4))
def vt (p0 : Tx) : Option (ByteArray) := (CH p0).den
theorem Ed (p0 : Tx) (v : ByteArray) (h : vt p0 = some v) : ab Tryz.prog 67 [.agg (aTx p0)] (sV v) [] :=
 (CH p0).call aG Tryz.func67 rfl (res := (fun v => sV v)) (row := fun v => []) (by kernel_rfl) h
structure ia where
 v16 : Int
 Hr : (List Int)
def du (p0 : ByteArray) (r1 : (List ByteArray)) (s1 : ia) : Wk (ia ⊕ (List Int)) :=
 .p 1 <|.ite (decide (s1.v16 < ((r1.map aq).length : Int)))
 (.eb <|.p 1 <|.bnd (aB r1 s1.v16) fun x1 ex1 =>
 .s (.idx aq ex1) <|.p 5 <|.jn false (ι := (List Int)) (fun j => ms 52 [(0, sV p0), (2, pV 2), (4, .one (.so [] 12 0 (((j).map ah).length))), (14, lV 1 aq r1), (15, iV ((r1.map aq).length : Int)), (16, iV s1.v16)] [(2, [.bx [iC 0, iC 0, iC 0]]), (12, [lC 1 ah j])])
 (.ite (decide (s1.v16 < 3))
 (.p 3 <|.bnd (qo x1) fun r2 er2 =>
 .s (.call (Bb x1 r2 er2) Tryz.call59) <|.p 3 <|.bnd (aB s1.Hr s1.v16) fun x2 ex2 =>
 .s (.ixo ah ex2) <|.s (.st ah r2.1 (bO ex2).2 rfl) <|.im (.wc 4 (show (.one (.so [] 12 0 (((s1.Hr).map ah).length)) : TV) = .one (.so [] 12 0 (((s1.Hr.set ((s1.v16).toNat) r2.1).map ah).length)) by simp <;> omega)) <|.ret (s1.Hr.set ((s1.v16).toNat) r2.1))
 (.ret s1.Hr)) fun j1 =>
 .p 2 <|.ret (.inl ((⟨IntKind.wrap .i64 (s1.v16 + 1), j1⟩ : ia))))
 (.ret (.inr s1.Hr))
def CG (p0 : ByteArray) : Wk (Tx × Bool) :=
 .p 5 <|.ite (decide (((p0.size : Int)) > 9))
 (.p 3 <|.ret (((⟨0, 0, 0⟩ : Tx), false)))
 (.p 3 <|.bnd (iB p0 46) fun r1 er1 =>
 .s (.call (yx p0 46 r1 er1) Tryz.call65) <|.p 2 <|.jn true (ι := (List Int)) (fun j => ms 52 [(0, sV p0), (2, pV 2), (4, .one (.so [] 12 0 (((j).map ah).length)))] [(2, [.bx [iC 0, iC 0, iC 0]]), (12, [lC 1 ah j])])
 (.eb <|.loop (σ := ia) (fun s1 => ms 52 [(0, sV p0), (2, pV 2), (4, .one (.so [] 12 0 (((s1.Hr).map ah).length))), (14, lV 1 aq r1), (15, iV ((r1.map aq).length : Int)), (16, iV s1.v16)] [(2, [.bx [iC 0, iC 0, iC 0]]), (12, [lC 1 ah s1.Hr])]) ((⟨0, ([0, 0, 0] : List Int)⟩ : ia)) (du p0 r1)) fun j2 =>
 .bnd (aB j2 0) fun x3 ex3 =>
 .bnd (aB j2 1) fun x4 ex4 =>
 .bnd (aB j2 2) fun x5 ex5 =>
 .drawn [11] [(1, .ixo ah ex3), (2, .ld ah (bO ex3).2), (4, .ixo ah ex4), (5, .ld ah (bO ex4).2), (7, .ixo ah ex5), (8, .ld ah (bO ex5).2)] (ms 52 [(0, sV p0), (2, pV 2), (7, pV 7)] [(2, [.bx [iC 0, iC 0, iC 0]]), (7, [.bx [iC x3, iC x4, iC x5]])]) <|.jn false (ι := Bool) (fun j => ms 52 [(2, pV 2), (7, pV 7), (49, bV j)] [(2, [.bx [iC 0, iC 0, iC 0]]), (7, [.bx [iC x3, iC x4, iC x5]])])
 (.p 3 <|.cut 44 ((p0.toList == ((⟨#[]⟩ : ByteArray)).toList))
 (.p 5 <|.ret true)
 (.p 1 <|.bnd (vt ((⟨x3, x4, x5⟩ : Tx))) fun r3 er3 =>
 .s (.call (Ed ((⟨x3, x4, x5⟩ : Tx)) r3 er3) Tryz.call67) <|.p 3 <|.ret (!(r3.toList == p0.toList)))) fun j3 =>
 .ite (j3)
 (.p 3 <|.ret (((⟨0, 0, 0⟩ : Tx), false)))
 (.p 3 <|.ret (((⟨x3, x4, x5⟩ : Tx), true))))
def zt (p0 : ByteArray) : Option (Tx × Bool) := (CG p0).den
theorem PR (p0 : ByteArray) (v : Tx × Bool) (h : zt p0 = some v) : ab Tryz.prog 66 [sV p0] (.tup [.agg (aTx v.1), .one (.c (bC v.2))]) [] :=
 (CG p0).call aG Tryz.func66 rfl (res := (fun v => .tup [.agg (aTx v.1), .one (.c (bC v.2))])) (row := fun v => []) (by kernel_rfl) h
structure jg where
 v5 : ByteArray
 v13 : Int
def lM (p1 : (List Int)) (s1 : jg) : Wk (jg ⊕ ByteArray) :=
 .p 1 <|.ite (decide (s1.v13 < ((p1.map ah).length : Int)))
 (.eb <|.p 1 <|.bnd (aB p1 s1.v13) fun x1 ex1 =>
 .s (.idx ah ex1) <|.p 5 <|.jn false (ι := ByteArray) (fun j => ms 26 [(5, sV j), (11, lV 1 ah p1), (12, iV ((p1.map ah).length : Int)), (13, iV s1.v13)] [])
 (.ite (decide (x1 > 0))
 (.p 2 <|.bnd (lb s1.v13) fun r2 er2 =>
 .s (.call (kW s1.v13 r2 er2) Tryz.call68) <|.chk ((s1.v5.size + r2.size <= 140737488355328)) fun c2 =>
 .s (.q c2) <|.p 1 <|.ret (s1.v5 ++ r2))
 (.ret s1.v5)) fun j1 =>
 .p 2 <|.ret (.inl ((⟨j1, IntKind.wrap .i64 (s1.v13 + 1)⟩ : jg))))
 (.ret (.inr s1.v5))
def xE (p0 : Tx) (p1 : (List Int)) : Wk (ByteArray) :=
 .p 3 <|.bnd (vt p0) fun r1 er1 =>
 .s (.call (Ed p0 r1 er1) Tryz.call67) <|.chk ((r1.size + ((⟨#[58]⟩ : ByteArray)).size <= 140737488355328)) fun c1 =>
 .s (.q c1) <|.p 4 <|.jn true (ι := ByteArray) (fun j => ms 26 [(5, sV j)] [])
 (.eb <|.loop (σ := jg) (fun s1 => ms 26 [(5, sV s1.v5), (11, lV 1 ah p1), (12, iV ((p1.map ah).length : Int)), (13, iV s1.v13)] []) ((⟨r1 ++ ((⟨#[58]⟩ : ByteArray)), 0⟩ : jg)) (lM p1)) fun j2 =>
 .p 2 <|.ret j2
def qq (p0 : Tx) (p1 : (List Int)) : Option (ByteArray) := (xE p0 p1).den
theorem Bg (p0 : Tx) (p1 : (List Int)) (v : ByteArray) (h : qq p0 p1 = some v) : ab Tryz.prog 27 [.agg (aTx p0), lV 1 ah p1] (sV v) [] :=
 (xE p0 p1).call aG Tryz.func27 rfl (res := (fun v => sV v)) (row := fun v => []) (by kernel_rfl) h
structure cM where
 v11 : (List Int)
 v50 : Int
structure dX where
 v16 : Int
 KE : (List Int)
def dV (p1 : Int) (p2 : Int) (r1 : ByteArray × Bool) (r2 : (List ByteArray)) (r3 : Tx × Bool) (s1 : cM) (s2 : dX) : Wk (dX ⊕ (List Int)) :=
 .p 2 <|.bnd (aB r2 1) fun x3 ex3 =>
 .s (.idx aq ex3) <|.p 3 <|.ite (decide (s2.v16 < ((x3.size : Int))))
 (.eb <|.p 1 <|.bnd (aB r2 1) fun x4 ex4 =>
 .s (.idx aq ex4) <|.p 2 <|.chk ((0 <= s2.v16 /\ s2.v16 < (x4.size : Int))) fun c2 =>
 .s (.q c2) <|.p 4 <|.jn false (ι := (List Int)) (fun j => ms 94 [(1, iV p1), (2, iV p2), (6, pV 6), (9, sV r1.1), (11, .one (.so [] 11 0 (((j).map ah).length))), (12, lV 1 aq r2), (13, pV 13), (14, bV r3.2), (15, iV s1.v50), (16, iV s2.v16), (49, iV (((((List.replicate (p2 : Int).toNat 0).map ah).length : Nat) : Int))), (50, iV s1.v50)] [(6, [.bx [iC 0, iC 0, iC 0]]), (11, [lC 1 ah j]), (13, [.bx (eTx r3.1)])])
 (.ite (((IntKind.wrap .i64 ((IntKind.wrap .i64 (bD x4 s2.v16)) - 48)) == s1.v50))
 (.p 2 <|.bnd (aB s2.KE s1.v50) fun x5 ex5 =>
 .s (.ixo ah ex5) <|.s (.st ah 1 (bO ex5).2 rfl) <|.im (.wc 11 (show (.one (.so [] 11 0 (((s2.KE).map ah).length)) : TV) = .one (.so [] 11 0 (((s2.KE.set ((s1.v50).toNat) 1).map ah).length)) by simp <;> omega)) <|.ret (s2.KE.set ((s1.v50).toNat) 1))
 (.ret s2.KE)) fun j2 =>
 .p 3 <|.ret (.inl ((⟨IntKind.wrap .i64 (s2.v16 + 1), j2⟩ : dX))))
 (.ret (.inr s2.KE))
def dU (p1 : Int) (p2 : Int) (r1 : ByteArray × Bool) (r2 : (List ByteArray)) (r3 : Tx × Bool) (s1 : cM) : Wk (cM ⊕ (List Int)) :=
 .p 1 <|.ite (decide (s1.v50 < (((((List.replicate (p2 : Int).toNat 0).map ah).length : Nat) : Int))))
 (.jn true (ι := (List Int)) (fun j => ms 94 [(1, iV p1), (2, iV p2), (6, pV 6), (9, sV r1.1), (11, .one (.so [] 11 0 (((j).map ah).length))), (12, lV 1 aq r2), (13, pV 13), (14, bV r3.2), (49, iV (((((List.replicate (p2 : Int).toNat 0).map ah).length : Nat) : Int))), (50, iV s1.v50)] [(6, [.bx [iC 0, iC 0, iC 0]]), (11, [lC 1 ah j]), (13, [.bx (eTx r3.1)])])
 (.eb <|.p 3 <|.jn true (ι := (List Int)) (fun j => ms 94 [(1, iV p1), (2, iV p2), (6, pV 6), (9, sV r1.1), (11, .one (.so [] 11 0 (((j).map ah).length))), (12, lV 1 aq r2), (13, pV 13), (14, bV r3.2), (49, iV (((((List.replicate (p2 : Int).toNat 0).map ah).length : Nat) : Int))), (50, iV s1.v50)] [(6, [.bx [iC 0, iC 0, iC 0]]), (11, [lC 1 ah j]), (13, [.bx (eTx r3.1)])])
 (.eb <|.loop (σ := dX) (fun s2 => ms 94 [(1, iV p1), (2, iV p2), (6, pV 6), (9, sV r1.1), (11, .one (.so [] 11 0 (((s2.KE).map ah).length))), (12, lV 1 aq r2), (13, pV 13), (14, bV r3.2), (15, iV s1.v50), (16, iV s2.v16), (49, iV (((((List.replicate (p2 : Int).toNat 0).map ah).length : Nat) : Int))), (50, iV s1.v50)] [(6, [.bx [iC 0, iC 0, iC 0]]), (11, [lC 1 ah s2.KE]), (13, [.bx (eTx r3.1)])]) ((⟨0, s1.v11⟩ : dX)) (dV p1 p2 r1 r2 r3 s1)) fun j3 =>
 .ret j3) fun j4 =>
 .p 2 <|.ret (.inl ((⟨j4, IntKind.wrap .i64 (s1.v50 + 1)⟩ : cM))))
 (.ret (.inr s1.v11))
def oY (p0 : Tree) (p1 : Int) (p2 : Int) : Wk (Tx × (List Int) × Bool) :=
 .p 5 <|.bnd (lk p0 ((⟨#[99]⟩ : ByteArray))) fun r1 er1 =>
 .s (.call (td p0 ((⟨#[99]⟩ : ByteArray)) r1 er1) Tryz.call23) <|.p 6 <|.chk (0 <= (p2 : Int) /\ (p2 : Int).toNat * 8 <= 140737488355328) fun c1 =>
 .s (.make ah 0 c1) <|.p 2 <|.bnd (iB r1.1 58) fun r2 er2 =>
 .s (.call (yx r1.1 58 r2 er2) Tryz.call65) <|.p 1 <|.jn false (ι := Bool) (fun j => ms 94 [(1, iV p1), (2, iV p2), (6, pV 6), (9, sV r1.1), (11, .one (.so [] 23 0 (((List.replicate (p2 : Int).toNat 0).map ah).length))), (12, lV 1 aq r2), (38, bV j)] [(6, [.bx [iC 0, iC 0, iC 0]]), (23, [lC 1 ah (List.replicate (p2 : Int).toNat 0)])])
 (.p 3 <|.cut 28 (!r1.2)
 (.p 10 <|.ret true)
 (.p 5 <|.cut 33 ((((r2.map aq).length : Int) != 2))
 (.p 5 <|.ret true)
 (.p 1 <|.bnd (aB r2 1) fun x1 ex1 =>
 .s (.idx aq ex1) <|.p 3 <|.ret ((x1.toList == ((⟨#[]⟩ : ByteArray)).toList))))) fun j1 =>
 .ite (j1)
 (.p 5 <|.ret (((⟨0, 0, 0⟩ : Tx), List.replicate (p2 : Int).toNat 0, false)))
 (.p 1 <|.bnd (aB r2 0) fun x2 ex2 =>
 .s (.idx aq ex2) <|.p 1 <|.bnd (zt x2) fun r3 er3 =>
 .s (.call (PR x2 r3 er3) Tryz.call66) <|.p 9 <|.jn true (ι := (List Int)) (fun j => ms 94 [(1, iV p1), (2, iV p2), (6, pV 6), (9, sV r1.1), (11, .one (.so [] 11 0 (((j).map ah).length))), (13, pV 13), (14, bV r3.2)] [(6, [.bx [iC 0, iC 0, iC 0]]), (11, [lC 1 ah j]), (13, [.bx (eTx r3.1)])])
 (.eb <|.im (.ren 23 11 11) <|.loop (σ := cM) (fun s1 => ms 94 [(1, iV p1), (2, iV p2), (6, pV 6), (9, sV r1.1), (11, .one (.so [] 11 0 (((s1.v11).map ah).length))), (12, lV 1 aq r2), (13, pV 13), (14, bV r3.2), (49, iV (((((List.replicate (p2 : Int).toNat 0).map ah).length : Nat) : Int))), (50, iV s1.v50)] [(6, [.bx [iC 0, iC 0, iC 0]]), (11, [lC 1 ah s1.v11]), (13, [.bx (eTx r3.1)])]) ((⟨List.replicate (p2 : Int).toNat 0, 0⟩ : cM)) (dU p1 p2 r1 r2 r3)) fun j5 =>
 .jn false (ι := Bool) (fun j => ms 94 [(2, iV p2), (6, pV 6), (11, .one (.so [] 11 0 (((j5).map ah).length))), (13, pV 13), (88, bV j)] [(6, [.bx [iC 0, iC 0, iC 0]]), (11, [lC 1 ah j5]), (13, [.bx (eTx r3.1)])])
 (.p 3 <|.cut 76 (!r3.2)
 (.p 12 <|.ret true)
 (.p 6 <|.cut 82 ((r3.1.c != p1))
 (.p 6 <|.ret true)
 (.p 2 <|.bnd (qq r3.1 j5) fun r4 er4 =>
 .s (.ma (Bg r3.1 j5 r4 er4) Tryz.call27 (aw)) <|.p 3 <|.ret (!(r4.toList == r1.1.toList))))) fun j6 =>
 .ite (j6)
 (.chk (0 <= (p2 : Int) /\ (p2 : Int).toNat * 8 <= 140737488355328) fun c3 =>
 .drawn [2, 3] [(2, .make ah 0 c3)] (ms 94 [(6, pV 6), (7, .one (.so [] 91 0 (((List.replicate (p2 : Int).toNat 0).map ah).length))), (8, bV false)] [(6, [.bx [iC 0, iC 0, iC 0]]), (91, [lC 1 ah (List.replicate (p2 : Int).toNat 0)])]) <|.ret (((⟨0, 0, 0⟩ : Tx), List.replicate (p2 : Int).toNat 0, false)))
 (.p 5 <|.ret ((r3.1, j5, true))))
def mj (p0 : Tree) (p1 : Int) (p2 : Int) : Option (Tx × (List Int) × Bool) := (oY p0 p1 p2).den
theorem Dp (p0 : Tree) (p1 : Int) (p2 : Int) (v : Tx × (List Int) × Bool) (h : mj p0 p1 p2 = some v) : ab Tryz.prog 24 [.agg [.c (lC 3 aa p0.nodes)], iV p1, iV p2] (.tup [.agg (aTx v.1), .one (.so [] 0 0 (((v.2.1).map ah).length)), .one (.c (bC v.2.2))]) [lC 1 ah v.2.1] :=
 (oY p0 p1 p2).call aG Tryz.func24 rfl (res := (fun v => .tup [.agg (aTx v.1), .one (.so [] 0 0 (((v.2.1).map ah).length)), .one (.c (bC v.2.2))])) (row := (fun v => [lC 1 ah v.2.1])) (by kernel_rfl) h
structure mP where
 v3 : (List Int)
 v9 : Int
def ra (p0 : (List Int)) (s1 : mP) : Wk (mP ⊕ (List Int)) :=
 .p 1 <|.ite (decide (s1.v9 < ((p0.map ah).length : Int)))
 (.eb <|.p 1 <|.bnd (aB p0 s1.v9) fun x1 ex1 =>
 .s (.idx ah ex1) <|.p 5 <|.jn false (ι := (List Int)) (fun j => ms 22 [(3, .one (.so [] 3 0 (((j).map ah).length))), (7, lV 1 ah p0), (8, iV ((p0.map ah).length : Int)), (9, iV s1.v9)] [(3, [lC 1 ah j])])
 (.ite (decide (x1 > 0))
 (.p 3 <|.chk (((s1.v3).length + (([s1.v9] : List Int)).length) * 8 <= 140737488355328) fun c1 =>
 .s (.app ah .lit c1) <|.p 1 <|.im (.ren 19 3 3) <|.ret (s1.v3 ++ ([s1.v9] : List Int)))
 (.ret s1.v3)) fun j1 =>
 .p 2 <|.ret (.inl ((⟨j1, IntKind.wrap .i64 (s1.v9 + 1)⟩ : mP))))
 (.ret (.inr s1.v3))
def HH (p0 : (List Int)) : Wk ((List Int)) :=
 .p 6 <|.jn true (ι := (List Int)) (fun j => ms 22 [(3, .one (.so [] 3 0 (((j).map ah).length)))] [(3, [lC 1 ah j])])
 (.eb <|.im (.ren 6 3 3) <|.loop (σ := mP) (fun s1 => ms 22 [(3, .one (.so [] 3 0 (((s1.v3).map ah).length))), (7, lV 1 ah p0), (8, iV ((p0.map ah).length : Int)), (9, iV s1.v9)] [(3, [lC 1 ah s1.v3])]) ((⟨[], 0⟩ : mP)) (ra p0)) fun j2 =>
 .p 2 <|.ret j2
def Ca (p0 : (List Int)) : Option ((List Int)) := (HH p0).den
theorem uR (p0 : (List Int)) (v : (List Int)) (h : Ca p0 = some v) : ab Tryz.prog 26 [lV 1 ah p0] (.one (.so [] 0 0 (((v).map ah).length))) [lC 1 ah v] :=
 (HH p0).call aG Tryz.func26 rfl (res := (fun v => .one (.so [] 0 0 (((v).map ah).length)))) (row := (fun v => [lC 1 ah v])) (by kernel_rfl) h
def iX (p0 : aQ) (s1 : Int) : Wk (Int ⊕ (Unit ⊕ (Bool))) :=
 .p 1 <|.ite (decide (s1 < ((p0.counts.map ah).length : Int)))
 (.eb <|.bnd (aB p0.counts s1) fun x1 ex1 =>
 .s (.idx ah ex1) <|.p 2 <|.jn false (ι := Bool) (fun j => ms 367 [(1, pV 1), (3, pV 3), (82, lV 1 ah p0.counts), (83, iV ((p0.counts.map ah).length : Int)), (84, iV s1), (102, bV j)] [(1, [.bx (bS p0)]), (3, [.bx [iC 0, sC ((⟨#[]⟩ : ByteArray)), sC ((⟨#[]⟩ : ByteArray)), sC ((⟨#[]⟩ : ByteArray)), sC ((⟨#[]⟩ : ByteArray)), iC 0, bC false]])])
 (.p 3 <|.cut 90 (decide (x1 < 0))
 (.p 12 <|.ret true)
 (.p 4 <|.cut 94 (decide (x1 > 16))
 (.p 8 <|.ret true)
 (.p 4 <|.cut 98 ((p0.phase == 0))
 (.p 4 <|.ret ((x1 != 0)))
 (.p 4 <|.ret false)))) fun j3 =>
 .ite (j3)
 (.p 1 <|.ret (.inr (.inr false)))
 (.p 2 <|.ret (.inl (IntKind.wrap .i64 (s1 + 1)))))
 (.ret (.inr (.inl (()))))
def iY (p0 : aQ) (s2 : Int) : Wk (Int ⊕ (Unit ⊕ (Bool))) :=
 .p 1 <|.ite (decide (s2 < ((p0.stamps.map ah).length : Int)))
 (.eb <|.p 1 <|.bnd (aB p0.stamps s2) fun x2 ex2 =>
 .s (.idx ah ex2) <|.p 3 <|.jn false (ι := Bool) (fun j => ms 367 [(1, pV 1), (3, pV 3), (7, iV x2), (8, bV j), (112, lV 1 ah p0.stamps), (113, iV ((p0.stamps.map ah).length : Int)), (114, iV s2)] [(1, [.bx (bS p0)]), (3, [.bx [iC 0, sC ((⟨#[]⟩ : ByteArray)), sC ((⟨#[]⟩ : ByteArray)), sC ((⟨#[]⟩ : ByteArray)), sC ((⟨#[]⟩ : ByteArray)), iC 0, bC false]])])
 (.p 3 <|.bnd (aB p0.counts s2) fun x3 ex3 =>
 .s (.idx ah ex3) <|.p 3 <|.cut 125 ((x3 == 0))
 (.p 29 <|.ret true)
 (.p 5 <|.cut 130 ((p0.phase == 0))
 (.p 24 <|.ret true)
 (.p 5 <|.cut 135 ((p0.phase == 4))
 (.p 19 <|.ret true)
 (.p 4 <|.cut 139 ((p0.phase == 2))
 (.p 3 <|.bnd (aB p0.counts s2) fun x4 ex4 =>
 .s (.idx ah ex4) <|.p 4 <|.cut 147 ((x4 == 1))
 (.p 3 <|.bnd (rN p0.pend s2) fun r4 er4 =>
 .s (.call (wL p0.pend s2 r4 er4) Tryz.call17) <|.p 3 <|.ret r4)
 (.p 7 <|.ret false))
 (.p 15 <|.ret false))))) fun j5 =>
 .jn false (ι := Bool) (fun j => ms 367 [(1, pV 1), (3, pV 3), (112, lV 1 ah p0.stamps), (113, iV ((p0.stamps.map ah).length : Int)), (114, iV s2), (162, bV j)] [(1, [.bx (bS p0)]), (3, [.bx [iC 0, sC ((⟨#[]⟩ : ByteArray)), sC ((⟨#[]⟩ : ByteArray)), sC ((⟨#[]⟩ : ByteArray)), sC ((⟨#[]⟩ : ByteArray)), iC 0, bC false]])])
 (.p 1 <|.bnd (kg x2) fun r4 er4 =>
 .s (.call (kt x2 r4 er4) Tryz.call18) <|.p 2 <|.cut 157 (!r4)
 (.p 5 <|.ret true)
 (.p 5 <|.ret (!(((x2 == 0)) == j5)))) fun j6 =>
 .ite (j6)
 (.p 1 <|.ret (.inr (.inr false)))
 (.p 2 <|.ret (.inl (IntKind.wrap .i64 (s2 + 1)))))
 (.ret (.inr (.inl (()))))
def ja (p0 : aQ) (s3 : Int) (x4 : Msg) (s4 : Int) : Wk (Int ⊕ (Unit ⊕ (Unit ⊕ (Int ⊕ (Unit ⊕ (Bool)))))) :=
 .p 3 <|.ite (decide (s4 < s3))
 (.eb <|.bnd (aB p0.got s4) fun x6 ex6 =>
 .drawn [] [(3, .idx cC ex6)] (ms 367 [(1, pV 1), (9, iV s3), (10, pV 10), (11, iV s4), (224, lV 17 cC p0.got), (225, iV ((p0.got.map cC).length : Int)), (226, iV s3), (288, bV ((x6.shard == x4.shard)))] [(1, [.bx (bS p0)]), (10, [.bx (we x4)])]) <|.ite ((x6.shard == x4.shard))
 (.p 1 <|.ret (.inr (.inr (.inr (.inr (.inr false))))))
 (.p 3 <|.ret (.inl (IntKind.wrap .i64 (s4 + 1)))))
 (.ret (.inr (.inl (()))))
def iZ (p0 : aQ) (s3 : Int) : Wk (Int ⊕ (Unit ⊕ (Bool))) :=
 .p 1 <|.ite (decide (s3 < ((p0.got.map cC).length : Int)))
 (.join true (ι := Unit) (fun j => ms 367 [(1, pV 1), (224, lV 17 cC p0.got), (225, iV ((p0.got.map cC).length : Int)), (226, iV s3)] [(1, [.bx (bS p0)])])
 (.eb <|.p 1 <|.bnd (aB p0.got s3) fun x4 ex4 =>
 .s (.idx cC ex4) <|.p 4 <|.jn false (ι := Bool) (fun j => ms 367 [(1, pV 1), (9, iV s3), (10, pV 10), (224, lV 17 cC p0.got), (225, iV ((p0.got.map cC).length : Int)), (226, iV s3), (274, bV j)] [(1, [.bx (bS p0)]), (10, [.bx (we x4)])])
 (.p 1 <|.bnd (GS x4) fun r6 er6 =>
 .s (.call (Sq x4 r6 er6) Tryz.call22) <|.p 2 <|.cut 234 (!r6)
 (.p 40 <|.ret true)
 (.p 5 <|.cut 239 ((x4.kind != 2))
 (.p 35 <|.ret true)
 (.p 7 <|.cut 246 (!((x4.tx.c == p0.tx.c) && ((x4.tx.e == p0.tx.e) && ((x4.tx.n == p0.tx.n) && true))))
 (.p 28 <|.ret true)
 (.p 5 <|.cut 251 ((x4.code != 0))
 (.p 23 <|.ret true)
 (.p 8 <|.cut 259 (decide (x4.shard >= ((p0.counts.map ah).length : Int)))
 (.p 15 <|.ret true)
 (.p 4 <|.bnd (aB p0.counts x4.shard) fun x5 ex5 =>
 .s (.idx ah ex5) <|.p 4 <|.cut 268 ((x5 == 0))
 (.p 6 <|.ret true)
 (.p 4 <|.bnd (rN p0.pend x4.shard) fun r7 er7 =>
 .s (.call (wL p0.pend x4.shard r7 er7) Tryz.call17) <|.p 1 <|.ret r7))))))) fun j11 =>
 .ite (j11)
 (.p 1 <|.ret (.inr (.inr (.inr false))))
 (.p 1 <|.join true (ι := Unit) (fun j => ms 367 [(1, pV 1), (224, lV 17 cC p0.got), (225, iV ((p0.got.map cC).length : Int)), (226, iV s3)] [(1, [.bx (bS p0)])])
 (.eb <|.loop (σ := Int) (fun s4 => ms 367 [(1, pV 1), (9, iV s3), (10, pV 10), (11, iV s4), (224, lV 17 cC p0.got), (225, iV ((p0.got.map cC).length : Int)), (226, iV s3)] [(1, [.bx (bS p0)]), (10, [.bx (we x4)])]) 0 (ja p0 s3 x4)) fun j12 =>
 .ret (.inl (())))) fun j13 =>
 .p 2 <|.ret (.inl (IntKind.wrap .i64 (s3 + 1))))
 (.ret (.inr (.inl (()))))
def eK (p0 : aQ) : Wk (Bool) :=
 .p 5 <|.jn false (ι := Bool) (fun j => ms 367 [(1, pV 1), (3, pV 3), (62, bV j)] [(1, [.bx (bS p0)]), (3, [.bx [iC 0, sC ((⟨#[]⟩ : ByteArray)), sC ((⟨#[]⟩ : ByteArray)), sC ((⟨#[]⟩ : ByteArray)), sC ((⟨#[]⟩ : ByteArray)), iC 0, bC false]])])
 (.cs (decide (p0.id < 0))
 (fun h1 => .drawn [] [(3, .kn (.pl) 22 h1)] (ms 367 [(1, pV 1), (3, pV 3), (62, bV true)] [(1, [.bx (bS p0)]), (3, [.bx [iC 0, sC ((⟨#[]⟩ : ByteArray)), sC ((⟨#[]⟩ : ByteArray)), sC ((⟨#[]⟩ : ByteArray)), sC ((⟨#[]⟩ : ByteArray)), iC 0, bC false]])]) <|.ret true)
 (fun h1 => .cs (decide (p0.id > 7))
 (fun h2 => .drawn [] [(3, .kn (.pl) 22 h1), (8, .kn (.pl) 27 h2)] (ms 367 [(1, pV 1), (3, pV 3), (62, bV true)] [(1, [.bx (bS p0)]), (3, [.bx [iC 0, sC ((⟨#[]⟩ : ByteArray)), sC ((⟨#[]⟩ : ByteArray)), sC ((⟨#[]⟩ : ByteArray)), sC ((⟨#[]⟩ : ByteArray)), iC 0, bC false]])]) <|.ret true)
 (fun h2 => .bnd (oO p0.splits) fun r1 er1 =>
 .cs (!r1)
 (fun h3 => .drawn [] [(3, .kn (.pl) 22 h1), (8, .kn (.pl) 27 h2), (11, .call (eC p0.splits r1 er1) Tryz.call14), (14, .kn (.pl) 33 h3)] (ms 367 [(1, pV 1), (3, pV 3), (62, bV true)] [(1, [.bx (bS p0)]), (3, [.bx [iC 0, sC ((⟨#[]⟩ : ByteArray)), sC ((⟨#[]⟩ : ByteArray)), sC ((⟨#[]⟩ : ByteArray)), sC ((⟨#[]⟩ : ByteArray)), iC 0, bC false]])]) <|.ret true)
 (fun h3 => .bnd (vr p0.store) fun r2 er2 =>
 .cs (!r2)
 (fun h4 => .drawn [] [(3, .kn (.pl) 22 h1), (8, .kn (.pl) 27 h2), (11, .call (eC p0.splits r1 er1) Tryz.call14), (14, .kn (.pl) 33 h3), (17, .call (kX p0.store r2 er2) Tryz.call15), (20, .kn (.pl) 39 h4)] (ms 367 [(1, pV 1), (3, pV 3), (62, bV true)] [(1, [.bx (bS p0)]), (3, [.bx [iC 0, sC ((⟨#[]⟩ : ByteArray)), sC ((⟨#[]⟩ : ByteArray)), sC ((⟨#[]⟩ : ByteArray)), sC ((⟨#[]⟩ : ByteArray)), iC 0, bC false]])]) <|.ret true)
 (fun h4 => .cs (decide (p0.epoch < 1))
 (fun h5 => .drawn [] [(3, .kn (.pl) 22 h1), (8, .kn (.pl) 27 h2), (11, .call (eC p0.splits r1 er1) Tryz.call14), (14, .kn (.pl) 33 h3), (17, .call (kX p0.store r2 er2) Tryz.call15), (20, .kn (.pl) 39 h4), (25, .kn (.pl) 44 h5)] (ms 367 [(1, pV 1), (3, pV 3), (62, bV true)] [(1, [.bx (bS p0)]), (3, [.bx [iC 0, sC ((⟨#[]⟩ : ByteArray)), sC ((⟨#[]⟩ : ByteArray)), sC ((⟨#[]⟩ : ByteArray)), sC ((⟨#[]⟩ : ByteArray)), iC 0, bC false]])]) <|.ret true)
 (fun h5 => .bnd (rP p0.store.tree) fun r3 er3 =>
 .cs ((p0.epoch != r3))
 (fun h6 => .drawn [] [(3, .kn (.pl) 22 h1), (8, .kn (.pl) 27 h2), (11, .call (eC p0.splits r1 er1) Tryz.call14), (14, .kn (.pl) 33 h3), (17, .call (kX p0.store r2 er2) Tryz.call15), (20, .kn (.pl) 39 h4), (25, .kn (.pl) 44 h5), (31, .call (pS p0.store.tree r3 er3) Tryz.call16), (34, .kn (.pl) 53 h6)] (ms 367 [(1, pV 1), (3, pV 3), (62, bV true)] [(1, [.bx (bS p0)]), (3, [.bx [iC 0, sC ((⟨#[]⟩ : ByteArray)), sC ((⟨#[]⟩ : ByteArray)), sC ((⟨#[]⟩ : ByteArray)), sC ((⟨#[]⟩ : ByteArray)), iC 0, bC false]])]) <|.ret true)
 (fun h6 => .cs (decide (p0.num < 0))
 (fun h7 => .drawn [] [(3, .kn (.pl) 22 h1), (8, .kn (.pl) 27 h2), (11, .call (eC p0.splits r1 er1) Tryz.call14), (14, .kn (.pl) 33 h3), (17, .call (kX p0.store r2 er2) Tryz.call15), (20, .kn (.pl) 39 h4), (25, .kn (.pl) 44 h5), (31, .call (pS p0.store.tree r3 er3) Tryz.call16), (34, .kn (.pl) 53 h6), (39, .kn (.pl) 58 h7)] (ms 367 [(1, pV 1), (3, pV 3), (62, bV true)] [(1, [.bx (bS p0)]), (3, [.bx [iC 0, sC ((⟨#[]⟩ : ByteArray)), sC ((⟨#[]⟩ : ByteArray)), sC ((⟨#[]⟩ : ByteArray)), sC ((⟨#[]⟩ : ByteArray)), iC 0, bC false]])]) <|.ret true)
 (fun h7 => .drawn [] [(3, .kn (.pl) 22 h1), (8, .kn (.pl) 27 h2), (11, .call (eC p0.splits r1 er1) Tryz.call14), (14, .kn (.pl) 33 h3), (17, .call (kX p0.store r2 er2) Tryz.call15), (20, .kn (.pl) 39 h4), (25, .kn (.pl) 44 h5), (31, .call (pS p0.store.tree r3 er3) Tryz.call16), (34, .kn (.pl) 53 h6), (39, .kn (.pl) 58 h7)] (ms 367 [(1, pV 1), (3, pV 3), (62, bV (decide (p0.num > 999)))] [(1, [.bx (bS p0)]), (3, [.bx [iC 0, sC ((⟨#[]⟩ : ByteArray)), sC ((⟨#[]⟩ : ByteArray)), sC ((⟨#[]⟩ : ByteArray)), sC ((⟨#[]⟩ : ByteArray)), iC 0, bC false]])]) <|.ret (decide (p0.num > 999)))))))))) fun j1 =>
 .ite (j1)
 (.p 1 <|.ret false)
 (.jn false (ι := Bool) (fun j => ms 367 [(1, pV 1), (3, pV 3), (80, bV j)] [(1, [.bx (bS p0)]), (3, [.bx [iC 0, sC ((⟨#[]⟩ : ByteArray)), sC ((⟨#[]⟩ : ByteArray)), sC ((⟨#[]⟩ : ByteArray)), sC ((⟨#[]⟩ : ByteArray)), iC 0, bC false]])])
 (.p 4 <|.cut 66 (decide (p0.phase < 0))
 (.p 14 <|.ret true)
 (.p 5 <|.cut 71 (decide (p0.phase > 4))
 (.p 9 <|.ret true)
 (.p 9 <|.ret ((((p0.counts.map ah).length : Int) != (IntKind.wrap .i64 (((p0.splits.map aq).length : Int) + 1))))))) fun j2 =>
 .ite (j2)
 (.p 1 <|.ret false)
 (.p 4 <|.join true (ι := Unit) (fun j => ms 367 [(1, pV 1), (3, pV 3)] [(1, [.bx (bS p0)]), (3, [.bx [iC 0, sC ((⟨#[]⟩ : ByteArray)), sC ((⟨#[]⟩ : ByteArray)), sC ((⟨#[]⟩ : ByteArray)), sC ((⟨#[]⟩ : ByteArray)), iC 0, bC false]])])
 (.eb <|.loop (σ := Int) (fun s1 => ms 367 [(1, pV 1), (3, pV 3), (82, lV 1 ah p0.counts), (83, iV ((p0.counts.map ah).length : Int)), (84, iV s1)] [(1, [.bx (bS p0)]), (3, [.bx [iC 0, sC ((⟨#[]⟩ : ByteArray)), sC ((⟨#[]⟩ : ByteArray)), sC ((⟨#[]⟩ : ByteArray)), sC ((⟨#[]⟩ : ByteArray)), iC 0, bC false]])]) 0 (iX p0)) fun j4 =>
 .p 7 <|.ite ((((p0.stamps.map ah).length : Int) != ((p0.counts.map ah).length : Int)))
 (.p 1 <|.ret false)
 (.p 4 <|.join true (ι := Unit) (fun j => ms 367 [(1, pV 1), (3, pV 3)] [(1, [.bx (bS p0)]), (3, [.bx [iC 0, sC ((⟨#[]⟩ : ByteArray)), sC ((⟨#[]⟩ : ByteArray)), sC ((⟨#[]⟩ : ByteArray)), sC ((⟨#[]⟩ : ByteArray)), iC 0, bC false]])])
 (.eb <|.loop (σ := Int) (fun s2 => ms 367 [(1, pV 1), (3, pV 3), (112, lV 1 ah p0.stamps), (113, iV ((p0.stamps.map ah).length : Int)), (114, iV s2)] [(1, [.bx (bS p0)]), (3, [.bx [iC 0, sC ((⟨#[]⟩ : ByteArray)), sC ((⟨#[]⟩ : ByteArray)), sC ((⟨#[]⟩ : ByteArray)), sC ((⟨#[]⟩ : ByteArray)), iC 0, bC false]])]) 0 (iY p0)) fun j7 =>
 .jn false (ι := Bool) (fun j => ms 367 [(1, pV 1), (3, pV 3), (179, bV j)] [(1, [.bx (bS p0)]), (3, [.bx [iC 0, sC ((⟨#[]⟩ : ByteArray)), sC ((⟨#[]⟩ : ByteArray)), sC ((⟨#[]⟩ : ByteArray)), sC ((⟨#[]⟩ : ByteArray)), iC 0, bC false]])])
 (.p 4 <|.bnd (rQ p0.pend p0.counts) fun r5 er5 =>
 .s (.call (Jw p0.pend p0.counts r5 er5) Tryz.call19) <|.p 2 <|.cut 170 (!r5)
 (.p 9 <|.ret true)
 (.p 9 <|.ret (!((decide (((p0.pend.map ah).length : Int) > 0)) == (decide (p0.phase >= 2)))))) fun j8 =>
 .ite (j8)
 (.p 1 <|.ret false)
 (.jn false (ι := Bool) (fun j => ms 367 [(1, pV 1), (3, pV 3), (196, bV j)] [(1, [.bx (bS p0)]), (3, [.bx [iC 0, sC ((⟨#[]⟩ : ByteArray)), sC ((⟨#[]⟩ : ByteArray)), sC ((⟨#[]⟩ : ByteArray)), sC ((⟨#[]⟩ : ByteArray)), iC 0, bC false]])])
 (.p 4 <|.cut 183 ((p0.phase != 0))
 (.p 2 <|.bnd (Ez p0.tx) fun r6 er6 =>
 .s (.call (Gd p0.tx r6 er6) Tryz.call20) <|.p 2 <|.cut 188 (!r6)
 (.p 8 <|.ret true)
 (.p 8 <|.ret ((p0.tx.c != p0.id))))
 (.p 13 <|.ret false)) fun j9 =>
 .ite (j9)
 (.p 1 <|.ret false)
 (.jn false (ι := Bool) (fun j => ms 367 [(1, pV 1), (222, bV j)] [(1, [.bx (bS p0)])])
 (.p 4 <|.cut 200 ((p0.phase == 2))
 (.p 2 <|.bnd (qi p0.ask) fun r6 er6 =>
 .s (.call (Jo p0.ask r6 er6) Tryz.call21) <|.p 3 <|.cut 206 (!r6)
 (.p 16 <|.ret true)
 (.p 4 <|.cut 210 ((p0.phase != 2))
 (.p 5 <|.cut 215 (!((p0.ask.kind == 0) && ((p0.ask.key.toList == ((⟨#[]⟩ : ByteArray)).toList) && ((p0.ask.val.toList == ((⟨#[]⟩ : ByteArray)).toList) && ((p0.ask.range.lo.toList == ((⟨#[]⟩ : ByteArray)).toList) && ((p0.ask.range.hi.toList == ((⟨#[]⟩ : ByteArray)).toList) && ((p0.ask.most == 0) && ((p0.ask.back == false) && true))))))))
 (.p 7 <|.ret true)
 (.p 7 <|.ret (decide (((p0.got.map cC).length : Int) > 0))))
 (.p 12 <|.ret false)))
 (.p 10 <|.cut 210 ((p0.phase != 2))
 (.p 5 <|.cut 215 (!((p0.ask.kind == 0) && ((p0.ask.key.toList == ((⟨#[]⟩ : ByteArray)).toList) && ((p0.ask.val.toList == ((⟨#[]⟩ : ByteArray)).toList) && ((p0.ask.range.lo.toList == ((⟨#[]⟩ : ByteArray)).toList) && ((p0.ask.range.hi.toList == ((⟨#[]⟩ : ByteArray)).toList) && ((p0.ask.most == 0) && ((p0.ask.back == false) && true))))))))
 (.p 7 <|.ret true)
 (.p 7 <|.ret (decide (((p0.got.map cC).length : Int) > 0))))
 (.p 12 <|.ret false))) fun j10 =>
 .ite (j10)
 (.p 1 <|.ret false)
 (.p 4 <|.join true (ι := Unit) (fun j => ms 367 [(1, pV 1)] [(1, [.bx (bS p0)])])
 (.eb <|.loop (σ := Int) (fun s3 => ms 367 [(1, pV 1), (224, lV 17 cC p0.got), (225, iV ((p0.got.map cC).length : Int)), (226, iV s3)] [(1, [.bx (bS p0)])]) 0 (iZ p0)) fun j14 =>
 .jn false (ι := Bool) (fun j => ms 367 [(1, pV 1), (12, bV j)] [(1, [.bx (bS p0)])])
 (.p 4 <|.cut 293 ((p0.phase == 2))
 (.p 5 <|.ret true)
 (.p 5 <|.ret ((p0.phase == 3)))) fun j15 =>
 .jn false (ι := Bool) (fun j => ms 367 [(1, pV 1), (314, bV j)] [(1, [.bx (bS p0)])])
 (.p 4 <|.cut 301 (decide (p0.age < 0))
 (.p 13 <|.ret true)
 (.p 5 <|.cut 306 (decide (p0.age >= 8))
 (.p 8 <|.ret true)
 (.p 3 <|.cut 309 (!j15)
 (.p 5 <|.ret ((p0.age != 0)))
 (.p 5 <|.ret false)))) fun j16 =>
 .ite (j16)
 (.p 1 <|.ret false)
 (.p 3 <|.bnd (lk p0.store.tree ((⟨#[99]⟩ : ByteArray))) fun r8 er8 =>
 .s (.call (td p0.store.tree ((⟨#[99]⟩ : ByteArray)) r8 er8) Tryz.call23) <|.p 13 <|.bnd (mj p0.store.tree p0.id ((p0.counts.map ah).length : Int)) fun r9 er9 =>
 .s (.call (Dp p0.store.tree p0.id ((p0.counts.map ah).length : Int) r9 er9) Tryz.call24) <|.p 11 <|.ite ((p0.phase != 4))
 (.p 3 <|.ret (!r9.2.2))
 (.jn false (ι := Bool) (fun j => ms 367 [(2, bV j)] [])
 (.cs (r8.2)
 (fun h48 => .cs (r9.2.2)
 (fun h49 => .cs (((r9.1.c == p0.tx.c) && ((r9.1.e == p0.tx.e) && ((r9.1.n == p0.tx.n) && true))))
 (fun h50 => .bnd (Ca r9.2.1) fun r10 er10 =>
 .bnd (Ca p0.counts) fun r11 er11 =>
 .bnd (gR r10 r11) fun r12 er12 =>
 .cs (r12)
 (fun h51 => .bnd (qq p0.tx p0.counts) fun r13 er13 =>
 .drawn [] [(1, .kn (.pl) 341 h48), (4, .kn (.pl) 344 h49), (10, .kn (.pl) 350 h50), (12, .ma (uR r9.2.1 r10 er10) Tryz.call26 (aN (ba DE _) (aw))), (15, .call (uR p0.counts r11 er11) Tryz.call26), (16, .ma (kY r10 r11 r12 er12) Tryz.call25 (aw)), (18, .kn (.pl) 358 h51), (24, .call (Bg p0.tx p0.counts r13 er13) Tryz.call27)] (ms 367 [(2, bV ((r8.1.toList == r13.toList)))] []) <|.ret ((r8.1.toList == r13.toList)))
 (fun h51 => .drawn [] [(1, .kn (.pl) 341 h48), (4, .kn (.pl) 344 h49), (10, .kn (.pl) 350 h50), (12, .ma (uR r9.2.1 r10 er10) Tryz.call26 (aN (ba DE _) (aw))), (15, .call (uR p0.counts r11 er11) Tryz.call26), (16, .ma (kY r10 r11 r12 er12) Tryz.call25 (aw)), (18, .kn (.pl) 358 h51)] (ms 367 [(2, bV false)] []) <|.ret false))
 (fun h50 => .drawn [] [(1, .kn (.pl) 341 h48), (4, .kn (.pl) 344 h49), (10, .kn (.pl) 350 h50)] (ms 367 [(2, bV false)] []) <|.ret false))
 (fun h49 => .drawn [] [(1, .kn (.pl) 341 h48), (4, .kn (.pl) 344 h49)] (ms 367 [(2, bV false)] []) <|.ret false))
 (fun h48 => .drawn [] [(1, .kn (.pl) 341 h48)] (ms 367 [(2, bV false)] []) <|.ret false)) fun j17 =>
 .ret j17))))))))
def ef (p0 : aQ) : Option (Bool) := (eK p0).den
theorem LQ (p0 : aQ) (v : Bool) (h : ef p0 = some v) : ab Tryz.prog 5 [.agg (zX p0)] (bV v) [] :=
 (eK p0).call aG Tryz.func5 rfl (res := (fun v => bV v)) (row := fun v => []) (by kernel_rfl) h
def qR (p0 : Int) (p1 : Int) (p2 : Int) : Wk (Bool) :=
 .p 1 <|.jn false (ι := Bool) (fun j => ms 15 [(6, bV j)] [])
 (.p 4 <|.cut 10 (decide (p0 >= p1))
 (.p 5 <|.ret (decide (p0 <= p2)))
 (.p 5 <|.ret false)) fun j1 =>
 .ret j1
def aH (p0 : Int) (p1 : Int) (p2 : Int) : Option (Bool) := (qR p0 p1 p2).den
theorem av (p0 : Int) (p1 : Int) (p2 : Int) (v : Bool) (h : aH p0 p1 p2 = some v) : ab Tryz.prog 34 [iV p0, iV p1, iV p2] (bV v) [] :=
 (qR p0 p1 p2).call aG Tryz.func34 rfl (res := (fun v => bV v)) (row := fun v => []) (by kernel_rfl) h
def Hy (p0 : ByteArray) : Wk (Bool) :=
 .p 3 <|.bnd (aH ((p0.size : Int)) 1 16) fun r1 er1 =>
 .s (.call (av ((p0.size : Int)) 1 16 r1 er1) Tryz.call34) <|.p 1 <|.ret r1
def wD (p0 : ByteArray) : Option (Bool) := (Hy p0).den
theorem AT (p0 : ByteArray) (v : Bool) (h : wD p0 = some v) : ab Tryz.prog 109 [sV p0] (bV v) [] :=
 (Hy p0).call aG Tryz.func109 rfl (res := (fun v => bV v)) (row := fun v => []) (by kernel_rfl) h
def jL (p0 : (List ByteArray)) (s1 : Int) : Wk (Int ⊕ (Unit ⊕ (Bool))) :=
 .p 1 <|.ite (decide (s1 < ((p0.map aq).length : Int)))
 (.eb <|.p 1 <|.bnd (aB p0 s1) fun x1 ex1 =>
 .s (.idx aq ex1) <|.p 3 <|.jn false (ι := Bool) (fun j => ms 32 [(0, lV 1 aq p0), (5, lV 1 aq p0), (6, iV ((p0.map aq).length : Int)), (7, iV s1), (27, bV j)] [])
 (.p 1 <|.bnd (wD x1) fun r1 er1 =>
 .s (.call (AT x1 r1 er1) Tryz.call109) <|.p 2 <|.cut 15 (!r1)
 (.p 12 <|.ret true)
 (.p 3 <|.cut 18 (decide (s1 > 0))
 (.p 3 <|.bnd (aB p0 (IntKind.wrap .i64 (s1 - 1))) fun x2 ex2 =>
 .s (.idx aq ex2) <|.p 5 <|.ret (!Op.bytesLess x2.toList x1.toList))
 (.p 9 <|.ret false))) fun j1 =>
 .ite (j1)
 (.p 1 <|.ret (.inr (.inr false)))
 (.p 2 <|.ret (.inl (IntKind.wrap .i64 (s1 + 1)))))
 (.ret (.inr (.inl (()))))
def tC (p0 : (List ByteArray)) : Wk (Bool) :=
 .p 4 <|.join true (ι := Unit) (fun j => ms 32 [(0, lV 1 aq p0)] [])
 (.eb <|.loop (σ := Int) (fun s1 => ms 32 [(0, lV 1 aq p0), (5, lV 1 aq p0), (6, iV ((p0.map aq).length : Int)), (7, iV s1)] []) 0 (jL p0)) fun j2 =>
 .p 4 <|.ret (decide (((p0.map aq).length : Int) < 4))
def rj (p0 : (List ByteArray)) : Option (Bool) := (tC p0).den
theorem Ji (p0 : (List ByteArray)) (v : Bool) (h : rj p0 = some v) : ab Tryz.prog 73 [lV 1 aq p0] (bV v) [] :=
 (tC p0).call aG Tryz.func73 rfl (res := (fun v => bV v)) (row := fun v => []) (by kernel_rfl) h
def mG (p0 : ByteArray) : Wk (Bool) :=
 .p 5 <|.ret (decide (((p0.size : Int)) > 8))
def oC (p0 : ByteArray) : Option (Bool) := (mG p0).den
theorem AX (p0 : ByteArray) (v : Bool) (h : oC p0 = some v) : ab Tryz.prog 75 [sV p0] (bV v) [] :=
 (mG p0).call aG Tryz.func75 rfl (res := (fun v => bV v)) (row := fun v => []) (by kernel_rfl) h
def aT (p0 : (List ByteArray)) (s1 : Int) : Wk (Int ⊕ (Unit ⊕ (Int))) :=
 .p 1 <|.ite (decide (s1 < ((p0.map aq).length : Int)))
 (.eb <|.p 5 <|.bnd (aB p0 s1) fun x1 ex1 =>
 .s (.idx aq ex1) <|.p 1 <|.bnd (oC x1) fun r1 er1 =>
 .s (.Up (AX x1 r1 er1) Tryz.call75 (aw)) <|.ite (r1)
 (.p 2 <|.ret (.inr (.inr s1)))
 (.p 2 <|.ret (.inl (IntKind.wrap .i64 (s1 + 1)))))
 (.ret (.inr (.inl (()))))
def bM (p0 : (List ByteArray)) : Wk (Int) :=
 .p 4 <|.join true (ι := Unit) (fun j => ms 19 [] [])
 (.eb <|.loop (σ := Int) (fun s1 => ms 19 [(0, lV 1 aq p0), (1, .one (.c (.fn 75 []))), (7, iV ((p0.map aq).length : Int)), (8, iV s1)] []) 0 (aT p0)) fun j1 =>
 .p 1 <|.ret (-1)
def bQ (p0 : (List ByteArray)) : Option (Int) := (bM p0).den
theorem fB (p0 : (List ByteArray)) (v : Int) (h : bQ p0 = some v) : ab Tryz.prog 110 [lV 1 aq p0, .one (.c (.fn 75 []))] (iV v) [] :=
 (bM p0).call aG Tryz.func110 rfl (res := (fun v => iV v)) (row := fun v => []) (by kernel_rfl) h
def bB (p0 : (List ByteArray)) : Wk (Bool) :=
 .p 3 <|.bnd (bQ p0) fun r1 er1 =>
 .s (.call (fB p0 r1 er1) Tryz.call110) <|.p 2 <|.ret (decide (r1 >= 0))
def bE (p0 : (List ByteArray)) : Option (Bool) := (bB p0).den
theorem eE (p0 : (List ByteArray)) (v : Bool) (h : bE p0 = some v) : ab Tryz.prog 74 [lV 1 aq p0, .one (.c (.fn 75 []))] (bV v) [] :=
 (bB p0).call aG Tryz.func74 rfl (res := (fun v => bV v)) (row := fun v => []) (by kernel_rfl) h
def tF (p0 : (List ByteArray)) : Wk (Bool) :=
 .p 1 <|.jn false (ι := Bool) (fun j => ms 10 [(2, bV j)] [])
 (.p 1 <|.bnd (rj p0) fun r1 er1 =>
 .s (.call (Ji p0 r1 er1) Tryz.call73) <|.p 1 <|.cut 5 (r1)
 (.p 1 <|.bnd (bE p0) fun r2 er2 =>
 .s (.call (eE p0 r2 er2) Tryz.call74) <|.p 3 <|.ret (!r2))
 (.p 5 <|.ret false)) fun j1 =>
 .ret j1
def rp (p0 : (List ByteArray)) : Option (Bool) := (tF p0).den
theorem fZ (p0 : (List ByteArray)) (v : Bool) (h : rp p0 = some v) : ab Tryz.prog 35 [lV 1 aq p0] (bV v) [] :=
 (tF p0).call aG Tryz.func35 rfl (res := (fun v => bV v)) (row := fun v => []) (by kernel_rfl) h
def nt (p0 : bp) (s1 : Int) : Wk (Int ⊕ (Unit ⊕ (Bool))) :=
 .p 1 <|.ite (decide (s1 < ((p0.sheets.map aj).length : Int)))
 (.eb <|.bnd (aB p0.sheets s1) fun x1 ex1 =>
 .s (.idx aj ex1) <|.p 3 <|.jn false (ι := Bool) (fun j => ms 57 [(1, pV 1), (8, lV 1 aj p0.sheets), (9, iV ((p0.sheets.map aj).length : Int)), (10, iV s1), (23, bV j)] [(1, [.bx (dN p0)])])
 (.p 5 <|.cut 18 ((((x1.bytes.map ae).length : Int) != 0))
 (.p 5 <|.ret ((((x1.bytes.map ae).length : Int) != 512)))
 (.p 5 <|.ret false)) fun j1 =>
 .ite (j1)
 (.p 1 <|.ret (.inr (.inr false)))
 (.p 2 <|.ret (.inl (IntKind.wrap .i64 (s1 + 1)))))
 (.ret (.inr (.inl (()))))
def nu (p0 : bp) (s2 : Int) : Wk (Int ⊕ (Unit ⊕ (Bool))) :=
 .p 1 <|.ite (decide (s2 < ((p0.dirty.map ao).length : Int)))
 (.eb <|.bnd (aB p0.dirty s2) fun x2 ex2 =>
 .s (.idx ao ex2) <|.p 3 <|.jn false (ι := Bool) (fun j => ms 57 [(1, pV 1), (26, lV 2 ao p0.dirty), (27, iV ((p0.dirty.map ao).length : Int)), (28, iV s2), (45, bV j)] [(1, [.bx (dN p0)])])
 (.p 6 <|.bnd (aH x2.at_ 0 (IntKind.wrap .i64 (((p0.sheets.map aj).length : Int) - 1))) fun r1 er1 =>
 .s (.call (av x2.at_ 0 (IntKind.wrap .i64 (((p0.sheets.map aj).length : Int) - 1)) r1 er1) Tryz.call34) <|.p 2 <|.cut 40 (!r1)
 (.p 5 <|.ret true)
 (.p 5 <|.ret ((((x2.bytes.map ae).length : Int) != 512)))) fun j3 =>
 .ite (j3)
 (.p 1 <|.ret (.inr (.inr false)))
 (.p 2 <|.ret (.inl (IntKind.wrap .i64 (s2 + 1)))))
 (.ret (.inr (.inl (()))))
def Cq (p0 : bp) : Wk (Bool) :=
 .p 6 <|.join true (ι := Unit) (fun j => ms 57 [(1, pV 1)] [(1, [.bx (dN p0)])])
 (.eb <|.loop (σ := Int) (fun s1 => ms 57 [(1, pV 1), (8, lV 1 aj p0.sheets), (9, iV ((p0.sheets.map aj).length : Int)), (10, iV s1)] [(1, [.bx (dN p0)])]) 0 (nt p0)) fun j2 =>
 .p 4 <|.join true (ι := Unit) (fun j => ms 57 [(1, pV 1)] [(1, [.bx (dN p0)])])
 (.eb <|.loop (σ := Int) (fun s2 => ms 57 [(1, pV 1), (26, lV 2 ao p0.dirty), (27, iV ((p0.dirty.map ao).length : Int)), (28, iV s2)] [(1, [.bx (dN p0)])]) 0 (nu p0)) fun j4 =>
 .jn false (ι := Bool) (fun j => ms 57 [(2, bV j)] [])
 (.p 3 <|.bnd (aH ((p0.sheets.map aj).length : Int) 2 400) fun r2 er2 =>
 .s (.call (av ((p0.sheets.map aj).length : Int) 2 400 r2 er2) Tryz.call34) <|.p 1 <|.cut 51 (r2)
 (.p 6 <|.ret (decide (((p0.dirty.map ao).length : Int) <= 500)))
 (.p 6 <|.ret false)) fun j5 =>
 .ret j5
def uw (p0 : bp) : Option (Bool) := (Cq p0).den
theorem DY (p0 : bp) (v : Bool) (h : uw p0 = some v) : ab Tryz.prog 111 [.agg (sg p0)] (bV v) [] :=
 (Cq p0).call aG Tryz.func111 rfl (res := (fun v => bV v)) (row := fun v => []) (by kernel_rfl) h
def qO (p0 : (List Int)) : Wk ((List Int)) :=
 .p 2 <|.chk (((([] : List Int)).length + (p0).length) * 1 <= 140737488355328) fun c1 =>
 .s (.app ae .ro c1) <|.p 1 <|.ret p0
def ik (p0 : (List Int)) : Option ((List Int)) := (qO p0).den
theorem oF (p0 : (List Int)) (v : (List Int)) (h : ik p0 = some v) : ab Tryz.prog 156 [lV 1 ae p0] (.one (.so [] 0 0 (((v).map ae).length))) [lC 1 ae v] :=
 (qO p0).call aG Tryz.func156 rfl (res := (fun v => .one (.so [] 0 0 (((v).map ae).length)))) (row := (fun v => [lC 1 ae v])) (by kernel_rfl) h
structure eQ where
 v5 : (List Int)
 v21 : Int
def mw (p0 : bp) (p1 : Int) (s1 : eQ) : Wk (eQ ⊕ (List Int)) :=
 .p 1 <|.ite (decide (s1.v21 < ((p0.dirty.map ao).length : Int)))
 (.eb <|.bnd (aB p0.dirty s1.v21) fun x2 ex2 =>
 .s (.idx ao ex2) <|.p 7 <|.jn false (ι := (List Int)) (fun j => ms 38 [(1, iV p1), (5, lV 1 ae j), (19, lV 2 ao p0.dirty), (20, iV ((p0.dirty.map ao).length : Int)), (21, iV s1.v21)] [])
 (.ite ((x2.at_ == p1))
 (.p 3 <|.ret x2.bytes)
 (.ret s1.v5)) fun j1 =>
 .p 2 <|.ret (.inl ((⟨j1, IntKind.wrap .i64 (s1.v21 + 1)⟩ : eQ))))
 (.ret (.inr s1.v5))
def qK (p0 : bp) (p1 : Int) : Wk ((List Int)) :=
 .p 6 <|.bnd (aB p0.sheets p1) fun x1 ex1 =>
 .s (.idx aj ex1) <|.p 9 <|.jn true (ι := (List Int)) (fun j => ms 38 [(5, lV 1 ae j)] [])
 (.eb <|.loop (σ := eQ) (fun s1 => ms 38 [(1, iV p1), (5, lV 1 ae s1.v5), (19, lV 2 ao p0.dirty), (20, iV ((p0.dirty.map ao).length : Int)), (21, iV s1.v21)] []) ((⟨x1.bytes, 0⟩ : eQ)) (mw p0 p1)) fun j2 =>
 .p 3 <|.ite ((((j2.map ae).length : Int) == 0))
 (.chk (0 <= (512 : Int) /\ (512 : Int).toNat * 1 <= 140737488355328) fun c1 =>
 .s (.make ae 0 c1) <|.p 1 <|.ret (List.replicate (512 : Int).toNat 0))
 (.p 1 <|.bnd (ik j2) fun r1 er1 =>
 .s (.call (oF j2 r1 er1) Tryz.call156) <|.p 1 <|.ret r1)
def kO (p0 : bp) (p1 : Int) : Option ((List Int)) := (qK p0 p1).den
theorem uL (p0 : bp) (p1 : Int) (v : (List Int)) (h : kO p0 p1 = some v) : ab Tryz.prog 153 [.one (.c (.bx (gZ p0))), iV p1] (.one (.so [] 0 0 (((v).map ae).length))) [lC 1 ae v] :=
 (qK p0 p1).call aG Tryz.func153 rfl (res := (fun v => .one (.so [] 0 0 (((v).map ae).length)))) (row := (fun v => [lC 1 ae v])) (by kernel_rfl) h
def Cs (p0 : Meta) : Wk (Bool) :=
 .p 2 <|.jn false (ι := Bool) (fun j => ms 16 [(2, bV j)] [])
 (.p 2 <|.bnd (aH p0.gen 1 1099511627775) fun r1 er1 =>
 .s (.call (av p0.gen 1 1099511627775 r1 er1) Tryz.call34) <|.p 1 <|.cut 6 (r1)
 (.p 4 <|.cut 10 ((p0.root == 0))
 (.p 6 <|.ret true)
 (.p 2 <|.bnd (aH p0.root 2 399) fun r2 er2 =>
 .s (.call (av p0.root 2 399 r2 er2) Tryz.call34) <|.p 3 <|.ret r2))
 (.p 10 <|.ret false)) fun j1 =>
 .ret j1
def za (p0 : Meta) : Option (Bool) := (Cs p0).den
theorem PI (p0 : Meta) (v : Bool) (h : za p0 = some v) : ab Tryz.prog 201 [.agg [.c (iC p0.gen), .c (iC p0.root)]] (bV v) [] :=
 (Cs p0).call aG Tryz.func201 rfl (res := (fun v => bV v)) (row := fun v => []) (by kernel_rfl) h
structure py where
 v0 : (List Int)
 v7 : Int
def kA (p1 : Int) (s1 : py) : Wk (py ⊕ (List Int)) :=
 .p 2 <|.ite (decide (s1.v7 >= 0))
 (.eb <|.p 4 <|.chk ((0 : Int) <= (IntKind.wrap .i64 (8 * s1.v7))) fun c1 =>
 .s (.shf c1) <|.p 2 <|.chk (((s1.v0).length + (([IntKind.wrap .u8 (Int.fdiv p1 (2 ^ min ((IntKind.wrap .i64 (8 * s1.v7)) : Int).toNat (IntKind.bits .i64)))] : List Int)).length) * 1 <= 140737488355328) fun c2 =>
 .s (.app ae .lit c2) <|.p 4 <|.im (.ren 21 7 0) <|.ret (.inl ((⟨s1.v0 ++ ([IntKind.wrap .u8 (Int.fdiv p1 (2 ^ min ((IntKind.wrap .i64 (8 * s1.v7)) : Int).toNat (IntKind.bits .i64)))] : List Int), IntKind.wrap .i64 (s1.v7 - 1)⟩ : py))))
 (.ret (.inr s1.v0))
def HB (p0 : (List Int)) (p1 : Int) (p2 : Int) : Wk ((List Int)) :=
 .p 4 <|.jn true (ι := (List Int)) (fun j => ms 23 [(0, .one (.so [] 7 0 (((j).map ae).length)))] [(7, [lC 1 ae j])])
 (.eb <|.im (.YW [] 0 0 7 0) <|.loop (σ := py) (fun s1 => ms 23 [(0, .one (.so [] 7 0 (((s1.v0).map ae).length))), (1, iV p1), (7, iV s1.v7)] [(7, [lC 1 ae s1.v0])]) ((⟨p0, IntKind.wrap .i64 (p2 - 1)⟩ : py)) (kA p1)) fun j1 =>
 .p 2 <|.im (.yQ [(0, 0)]) <|.ret j1
def yp (p0 : (List Int)) (p1 : Int) (p2 : Int) : Option ((List Int)) := (HB p0 p1 p2).den
theorem FW (p0 : (List Int)) (p1 : Int) (p2 : Int) (v : (List Int)) (h : yp p0 p1 p2 = some v) : lA Tryz.prog 202 [lC 1 ae p0] [.one (.so [] 0 0 (((p0).map ae).length)), iV p1, iV p2] [] (.one (.so [] 0 0 (((v).map ae).length))) [lC 1 ae v] :=
 (HB p0 p1 p2).Di aG Tryz.func202 rfl (outs := (fun v : (List Int) => [])) (res := (fun v => .one (.so [] 0 0 (((v).map ae).length)))) (row := (fun v => [lC 1 ae v])) (Nat.le_of_ble_eq_true rfl) (by kernel_rfl) h
def Nh (p0 : (List Int)) (p1 : Int) : Wk ((List Int) × Bool) :=
 .p 2 <|.jn false (ι := Bool) (fun j => ms 22 [(0, lV 1 ae p0), (1, iV p1), (15, bV j)] [])
 (.p 1 <|.bnd (aH p1 0 4096) fun r1 er1 =>
 .s (.call (av p1 0 4096 r1 er1) Tryz.call34) <|.p 2 <|.cut 10 (!r1)
 (.p 5 <|.ret true)
 (.p 5 <|.ret (decide (((p0.map ae).length : Int) > p1)))) fun j1 =>
 .ite (j1)
 (.p 2 <|.im (.Gv 4 4 1) <|.ret (([], false)))
 (.p 1 <|.chk (0 <= (p1 : Int) /\ (p1 : Int).toNat * 1 <= 140737488355328) fun c1 =>
 .s (.make ae 0 c1) <|.p 3 <|.chk ((p0).length <= (List.replicate (p1 : Int).toNat 0).length) fun c2 =>
 .s (.cpy c2) <|.im (.wc 6 (show (.one (.so [] 17 0 (((List.replicate (p1 : Int).toNat 0).map ae).length)) : TV) = .one (.so [] 17 0 (((p0 ++ (List.replicate (p1 : Int).toNat 0).drop (p0).length).map ae).length)) by have := c2; simp at this ⊢ <;> omega)) <|.p 3 <|.ret ((p0 ++ (List.replicate (p1 : Int).toNat 0).drop (p0).length, true)))
def DQ (p0 : (List Int)) (p1 : Int) : Option ((List Int) × Bool) := (Nh p0 p1).den
theorem FP (p0 : (List Int)) (p1 : Int) (v : (List Int) × Bool) (h : DQ p0 p1 = some v) : ab Tryz.prog 203 [lV 1 ae p0, iV p1] (.tup [.one (.so [] 0 0 (((v.1).map ae).length)), .one (.c (bC v.2))]) [lC 1 ae v.1] :=
 (Nh p0 p1).call aG Tryz.func203 rfl (res := (fun v => .tup [.one (.so [] 0 0 (((v.1).map ae).length)), .one (.c (bC v.2))])) (row := (fun v => [lC 1 ae v.1])) (by kernel_rfl) h
def qL (p0 : Meta) : Wk ((List Int) × Bool) :=
 .p 4 <|.bnd (za p0) fun r1 er1 =>
 .s (.call (PI p0 r1 er1) Tryz.call201) <|.p 1 <|.ite (!r1)
 (.p 2 <|.im (.Gv 2 2 1) <|.ret (([], false)))
 (.bnd (yp ([77]) p0.gen 5) fun r2 er2 =>
 .bnd (yp r2 p0.root 2) fun r3 er3 =>
 .drawn [3, 6] [(3, .g (FW ([77]) p0.gen 5 r2 er2) Tryz.call202 .nil), (6, .g (FW r2 p0.root 2 r3 er3) Tryz.call202 .nil)] (ms 24 [(1, pV 1), (4, .one (.so [] 14 0 (((r3).map ae).length)))] [(1, [.bx [iC p0.gen, iC p0.root]]), (14, [lC 1 ae r3])]) <|.p 1 <|.bnd (DQ r3 507) fun r4 er4 =>
 .s (.ma (FP r3 507 r4 er4) Tryz.call203 (aN (ba gL _) (aw))) <|.p 7 <|.bnd (yp r4.1 p0.gen 5) fun r5 er5 =>
 .s (.g (FW r4.1 p0.gen 5 r5 er5) Tryz.call202 .nil) <|.p 2 <|.ret ((r5, true)))
def oy (p0 : Meta) : Option ((List Int) × Bool) := (qL p0).den
theorem FQ (p0 : Meta) (v : (List Int) × Bool) (h : oy p0 = some v) : ab Tryz.prog 178 [.agg [.c (iC p0.gen), .c (iC p0.root)]] (.tup [.one (.so [] 0 0 (((v.1).map ae).length)), .one (.c (bC v.2))]) [lC 1 ae v.1] :=
 (qL p0).call aG Tryz.func178 rfl (res := (fun v => .tup [.one (.so [] 0 0 (((v.1).map ae).length)), .one (.c (bC v.2))])) (row := (fun v => [lC 1 ae v.1])) (by kernel_rfl) h
structure gA where
 v27 : Int
 aM : Int
def gl (p0 : (List Int)) (s1 : gA) : Wk (gA ⊕ Int) :=
 .p 1 <|.ite (decide (s1.v27 < ((((((((p0).take 6).drop 1)).map ae).length : Nat) : Int))))
 (.eb <|.bnd (aB ((((p0).take 6).drop 1)) s1.v27) fun x3 ex3 =>
 .s (.idx ae ex3) <|.p 12 <|.ret (.inl ((⟨IntKind.wrap .i64 (s1.v27 + 1), IntKind.wrap .i64 (((BitVec.ofInt 64 (IntKind.wrap .i64 (s1.aM * 256)) ||| BitVec.ofInt 64 (IntKind.wrap .i64 x3)).toNat : Nat) : Int)⟩ : gA))))
 (.ret (.inr s1.aM))
def tA (p0 : (List Int)) : Wk (Meta × Bool) :=
 .p 5 <|.ite ((((p0.map ae).length : Int) != 512))
 (.p 3 <|.ret (((⟨0, 0⟩ : Meta), false)))
 (.bnd (aB p0 6) fun x1 ex1 =>
 .bnd (aB p0 7) fun x2 ex2 =>
 .drawn [12] [(1, .idx ae ex1), (6, .idx ae ex2)] (ms 55 [(0, lV 1 ae p0), (2, pV 2), (4, pV 4)] [(2, [.bx [iC 0, iC 0]]), (4, [.bx [iC 0, iC (IntKind.wrap .i64 (((BitVec.ofInt 64 (IntKind.wrap .i64 ((IntKind.wrap .i64 x1) * 256)) ||| BitVec.ofInt 64 (IntKind.wrap .i64 x2)).toNat : Nat) : Int))]])]) <|.p 1 <|.chk (0 <= (1 : Int) /\ (1 : Int) <= 6 /\ 6 <= ((p0).length : Int)) fun c1 =>
 .s (.YQ ae p0 c1) <|.p 2 <|.jn true (ι := Int) (fun j => ms 55 [(0, lV 1 ae p0), (2, pV 2), (4, pV 4)] [(2, [.bx [iC 0, iC 0]]), (4, [.bx [iC j, iC (IntKind.wrap .i64 (((BitVec.ofInt 64 (IntKind.wrap .i64 ((IntKind.wrap .i64 x1) * 256)) ||| BitVec.ofInt 64 (IntKind.wrap .i64 x2)).toNat : Nat) : Int))]])])
 (.eb <|.loop (σ := gA) (fun s1 => ms 55 [(0, lV 1 ae p0), (2, pV 2), (4, pV 4), (25, lV 1 ae ((((p0).take 6).drop 1))), (26, iV ((((((((p0).take 6).drop 1)).map ae).length : Nat) : Int))), (27, iV s1.v27)] [(2, [.bx [iC 0, iC 0]]), (4, [.bx [iC s1.aM, iC (IntKind.wrap .i64 (((BitVec.ofInt 64 (IntKind.wrap .i64 ((IntKind.wrap .i64 x1) * 256)) ||| BitVec.ofInt 64 (IntKind.wrap .i64 x2)).toNat : Nat) : Int))]])]) ((⟨0, 0⟩ : gA)) (gl p0)) fun j1 =>
 .p 1 <|.bnd (oy ((⟨j1, IntKind.wrap .i64 (((BitVec.ofInt 64 (IntKind.wrap .i64 ((IntKind.wrap .i64 x1) * 256)) ||| BitVec.ofInt 64 (IntKind.wrap .i64 x2)).toNat : Nat) : Int)⟩ : Meta))) fun r1 er1 =>
 .s (.call (FQ ((⟨j1, IntKind.wrap .i64 (((BitVec.ofInt 64 (IntKind.wrap .i64 ((IntKind.wrap .i64 x1) * 256)) ||| BitVec.ofInt 64 (IntKind.wrap .i64 x2)).toNat : Nat) : Int)⟩ : Meta)) r1 er1) Tryz.call178) <|.p 5 <|.jn false (ι := Bool) (fun j => ms 55 [(2, pV 2), (4, pV 4), (52, bV j)] [(2, [.bx [iC 0, iC 0]]), (4, [.bx [iC j1, iC (IntKind.wrap .i64 (((BitVec.ofInt 64 (IntKind.wrap .i64 ((IntKind.wrap .i64 x1) * 256)) ||| BitVec.ofInt 64 (IntKind.wrap .i64 x2)).toNat : Nat) : Int))]])])
 (.p 3 <|.cut 46 (!r1.2)
 (.p 6 <|.ret true)
 (.p 1 <|.chk (∀ n ∈ (r1.1 : List Int), 0 <= n /\ n < 256) fun c2 =>
 .s (.str c2) <|.p 1 <|.chk (∀ n ∈ (p0 : List Int), 0 <= n /\ n < 256) fun c3 =>
 .s (.str c3) <|.p 2 <|.ret (!((strOfNums r1.1).toList == (strOfNums p0).toList)))) fun j2 =>
 .ite (j2)
 (.p 3 <|.ret (((⟨0, 0⟩ : Meta), false)))
 (.p 3 <|.ret (((⟨j1, IntKind.wrap .i64 (((BitVec.ofInt 64 (IntKind.wrap .i64 ((IntKind.wrap .i64 x1) * 256)) ||| BitVec.ofInt 64 (IntKind.wrap .i64 x2)).toNat : Nat) : Int)⟩ : Meta), true))))
def rh (p0 : (List Int)) : Option (Meta × Bool) := (tA p0).den
theorem Jg (p0 : (List Int)) (v : Meta × Bool) (h : rh p0 = some v) : ab Tryz.prog 152 [lV 1 ae p0] (.tup [.agg [.c (iC v.1.gen), .c (iC v.1.root)], .one (.c (bC v.2))]) [] :=
 (tA p0).call aG Tryz.func152 rfl (res := (fun v => .tup [.agg [.c (iC v.1.gen), .c (iC v.1.root)], .one (.c (bC v.2))])) (row := fun v => []) (by kernel_rfl) h
structure nT where
 aM : Int
 bn : Int
structure gz where
 v13 : Int
 aM : Int
 bn : Int
structure nU where
 aM : Int
 bn : Int
def gk (p0 : bp) (s1 : gz) : Wk (gz ⊕ nT) :=
 .p 1 <|.ite (decide (s1.v13 < 2))
 (.eb <|.p 3 <|.bnd (kO p0 s1.v13) fun r2 er2 =>
 .s (.ma (uL p0 s1.v13 r2 er2) Tryz.call153 (aN (ba gL _) (aw))) <|.bnd (rh r2) fun r3 er3 =>
 .s (.ma (Jg r2 r3 er3) Tryz.call152 (aw)) <|.p 6 <|.jn false (ι := Bool) (fun j => ms 43 [(1, pV 1), (2, pV 2), (4, pV 4), (6, pV 6), (13, iV s1.v13), (36, bV j)] [(1, [.bx (dN p0)]), (2, [.bx [iC 0, iC 0]]), (4, [.bx [iC s1.aM, iC s1.bn]]), (6, [.bx [iC r3.1.gen, iC r3.1.root]])])
 (.p 2 <|.cut 23 (r3.2)
 (.p 7 <|.cut 30 (((Int.tmod r3.1.gen 2) == s1.v13))
 (.p 6 <|.ret (decide (r3.1.gen > s1.aM)))
 (.p 6 <|.ret false))
 (.p 13 <|.ret false)) fun j1 =>
 .jn false (ι := nU) (fun j => ms 43 [(1, pV 1), (2, pV 2), (4, pV 4), (13, iV s1.v13)] [(1, [.bx (dN p0)]), (2, [.bx [iC 0, iC 0]]), (4, [.bx [iC j.aM, iC j.bn]])])
 (.ite (j1)
 (.p 2 <|.ret ((⟨r3.1.gen, r3.1.root⟩ : nU)))
 (.ret ((⟨s1.aM, s1.bn⟩ : nU)))) fun j2 =>
 .p 2 <|.ret (.inl ((⟨IntKind.wrap .i64 (s1.v13 + 1), j2.aM, j2.bn⟩ : gz))))
 (.ret (.inr ((⟨s1.aM, s1.bn⟩ : nT))))
def tz (p0 : bp) : Wk (Meta × Bool) :=
 .p 4 <|.bnd (uw p0) fun r1 er1 =>
 .s (.call (DY p0 r1 er1) Tryz.call111) <|.p 1 <|.ite (!r1)
 (.p 3 <|.ret (((⟨0, 0⟩ : Meta), false)))
 (.p 4 <|.jn true (ι := nT) (fun j => ms 43 [(2, pV 2), (4, pV 4)] [(2, [.bx [iC 0, iC 0]]), (4, [.bx [iC j.aM, iC j.bn]])])
 (.eb <|.loop (σ := gz) (fun s1 => ms 43 [(1, pV 1), (2, pV 2), (4, pV 4), (13, iV s1.v13)] [(1, [.bx (dN p0)]), (2, [.bx [iC 0, iC 0]]), (4, [.bx [iC s1.aM, iC s1.bn]])]) ((⟨0, 0, 0⟩ : gz)) (gk p0)) fun j3 =>
 .drawn [4] [] (ms 43 [(2, pV 2), (3, bV (decide (j3.aM > 0)))] [(2, [.bx [iC j3.aM, iC j3.bn]])]) <|.ret (((⟨j3.aM, j3.bn⟩ : Meta), decide (j3.aM > 0))))
def rf (p0 : bp) : Option (Meta × Bool) := (tz p0).den
theorem Jf (p0 : bp) (v : Meta × Bool) (h : rf p0 = some v) : ab Tryz.prog 112 [.agg (sg p0)] (.tup [.agg [.c (iC v.1.gen), .c (iC v.1.root)], .one (.c (bC v.2))]) [] :=
 (tz p0).call aG Tryz.func112 rfl (res := (fun v => .tup [.agg [.c (iC v.1.gen), .c (iC v.1.root)], .one (.c (bC v.2))])) (row := fun v => []) (by kernel_rfl) h
def gw (p0 : (List Int)) (p1 : Int) (s1 : Int) : Wk (Int ⊕ (Unit ⊕ (Int))) :=
 .p 1 <|.ite (decide (s1 < ((p0.map ah).length : Int)))
 (.eb <|.p 5 <|.bnd (aB p0 s1) fun x1 ex1 =>
 .s (.idx ah ex1) <|.p 2 <|.ite ((p1 == x1))
 (.p 2 <|.ret (.inr (.inr s1)))
 (.p 2 <|.ret (.inl (IntKind.wrap .i64 (s1 + 1)))))
 (.ret (.inr (.inl (()))))
def pa (p0 : (List Int)) (p1 : Int) : Wk (Int) :=
 .p 4 <|.join true (ι := Unit) (fun j => ms 19 [] [])
 (.eb <|.loop (σ := Int) (fun s1 => ms 19 [(0, lV 1 ah p0), (1, iV p1), (7, iV ((p0.map ah).length : Int)), (8, iV s1)] []) 0 (gw p0 p1)) fun j1 =>
 .p 1 <|.ret (-1)
def qv (p0 : (List Int)) (p1 : Int) : Option (Int) := (pa p0 p1).den
theorem Dq (p0 : (List Int)) (p1 : Int) (v : Int) (h : qv p0 p1 = some v) : ab Tryz.prog 122 [lV 1 ah p0, iV p1] (iV v) [] :=
 (pa p0 p1).call aG Tryz.func122 rfl (res := (fun v => iV v)) (row := fun v => []) (by kernel_rfl) h
def jF (p0 : (List Int)) (p1 : Int) : Wk (Bool) :=
 .p 3 <|.bnd (qv p0 p1) fun r1 er1 =>
 .s (.call (Dq p0 p1 r1 er1) Tryz.call122) <|.p 2 <|.ret (decide (r1 >= 0))
def dg (p0 : (List Int)) (p1 : Int) : Option (Bool) := (jF p0 p1).den
theorem eF (p0 : (List Int)) (p1 : Int) (v : Bool) (h : dg p0 p1 = some v) : ab Tryz.prog 80 [lV 1 ah p0, iV p1] (bV v) [] :=
 (jF p0 p1).call aG Tryz.func80 rfl (res := (fun v => bV v)) (row := fun v => []) (by kernel_rfl) h
structure kD where
 v6 : Int
 v7 : Int
 v8 : Int
def nv (p0 : (List Int)) (p1 : Int) (s1 : kD) : Wk (kD ⊕ (Unit ⊕ (Int × Int))) :=
 .jn false (ι := Bool) (fun j => ms 54 [(0, lV 1 ae p0), (1, iV p1), (6, iV s1.v6), (7, iV s1.v7), (8, iV s1.v8), (22, bV j)] [])
 (.p 5 <|.cut 17 (decide (s1.v8 < ((p0.map ae).length : Int)))
 (.p 5 <|.ret (decide ((IntKind.wrap .i64 (s1.v8 - p1)) < 6)))
 (.p 5 <|.ret false)) fun j1 =>
 .ite (j1)
 (.eb <|.p 2 <|.bnd (aB p0 s1.v8) fun x1 ex1 =>
 .s (.idx ae ex1) <|.p 15 <|.ite (decide ((IntKind.wrap .i64 x1) >= 128))
 (.p 3 <|.ret (.inl ((⟨IntKind.wrap .i64 (s1.v6 + (IntKind.wrap .i64 ((Int.tmod (IntKind.wrap .i64 x1) 128) * s1.v7))), IntKind.wrap .i64 (s1.v7 * 128), IntKind.wrap .i64 (s1.v8 + 1)⟩ : kD))))
 (.jn false (ι := Bool) (fun j => ms 54 [(6, iV (IntKind.wrap .i64 (s1.v6 + (IntKind.wrap .i64 ((Int.tmod (IntKind.wrap .i64 x1) 128) * s1.v7))))), (8, iV s1.v8), (50, bV j)] [])
 (.p 3 <|.cut 42 (decide ((IntKind.wrap .i64 (s1.v6 + (IntKind.wrap .i64 ((Int.tmod (IntKind.wrap .i64 x1) 128) * s1.v7)))) > 1099511627775))
 (.p 8 <|.ret true)
 (.p 3 <|.cut 45 (((IntKind.wrap .i64 x1) == 0))
 (.p 5 <|.ret (decide (s1.v8 > p1)))
 (.p 5 <|.ret false))) fun j2 =>
 .ite (j2)
 (.p 2 <|.ret (.inr (.inr ((0, -1)))))
 (.p 5 <|.ret (.inr (.inr ((IntKind.wrap .i64 (s1.v6 + (IntKind.wrap .i64 ((Int.tmod (IntKind.wrap .i64 x1) 128) * s1.v7))), IntKind.wrap .i64 (s1.v8 + 1))))))))
 (.ret (.inr (.inl (()))))
def Cr (p0 : (List Int)) (p1 : Int) : Wk (Int × Int) :=
 .p 4 <|.ite (decide (p1 < 0))
 (.p 2 <|.ret ((0, -1)))
 (.p 4 <|.join true (ι := Unit) (fun j => ms 54 [] [])
 (.eb <|.loop (σ := kD) (fun s1 => ms 54 [(0, lV 1 ae p0), (1, iV p1), (6, iV s1.v6), (7, iV s1.v7), (8, iV s1.v8)] []) ((⟨0, 1, p1⟩ : kD)) (nv p0 p1)) fun j3 =>
 .p 2 <|.ret ((0, -1)))
def uy (p0 : (List Int)) (p1 : Int) : Option (Int × Int) := (Cr p0 p1).den
theorem DZ (p0 : (List Int)) (p1 : Int) (v : Int × Int) (h : uy p0 p1 = some v) : ab Tryz.prog 204 [lV 1 ae p0, iV p1] (.tup [.one (.c (iC v.1)), .one (.c (iC v.2))]) [] :=
 (Cr p0 p1).call aG Tryz.func204 rfl (res := (fun v => .tup [.one (.c (iC v.1)), .one (.c (iC v.2))])) (row := fun v => []) (by kernel_rfl) h
def oV (p0 : Scan) : Wk (Scan × Int) :=
 .p 1 <|.bnd (uy p0.b p0.at_) fun r1 er1 =>
 .drawn [] [(8, .call (DZ p0.b p0.at_ r1 er1) Tryz.call204)] (ms 33 [(0, pV 0), (3, iV r1.1), (4, iV r1.2)] [(0, [.bx [.fz (lC 1 ae p0.b), iC p0.at_, bC p0.bad]])]) <|.jn false (ι := Bool) (fun j => ms 33 [(0, pV 0), (3, iV r1.1), (4, iV r1.2), (24, bV j)] [(0, [.bx [.fz (lC 1 ae p0.b), iC p0.at_, bC p0.bad]])])
 (.p 5 <|.cut 21 (p0.bad)
 (.p 3 <|.ret true)
 (.p 3 <|.ret (decide (r1.2 < 0)))) fun j1 =>
 .ite (j1)
 (.p 5 <|.ret (((⟨p0.b, p0.at_, true⟩ : Scan), 0)))
 (.p 7 <|.ret (((⟨p0.b, r1.2, p0.bad⟩ : Scan), r1.1)))
def fY (p0 : Scan) : Option (Scan × Int) := (oV p0).den
theorem pQ (p0 : Scan) (v : Scan × Int) (h : fY p0 = some v) : lA Tryz.prog 180 [.bx [.fz (lC 1 ae p0.b), iC p0.at_, bC p0.bad]] [pV 0] [.bx [.fz (lC 1 ae v.1.b), iC v.1.at_, bC v.1.bad]] (iV v.2) [] :=
 (oV p0).Di aG Tryz.func180 rfl (outs := (fun v : Scan × Int => [.bx [.fz (lC 1 ae v.1.b), iC v.1.at_, bC v.1.bad]])) (res := (fun v => iV v.2)) (row := fun v => []) (Nat.le_of_ble_eq_true rfl) (by kernel_rfl) h
def mu (p0 : Scan) (p1 : Int) : Wk (Scan × Int) :=
 .p 2 <|.bnd (fY p0) fun r1 er1 =>
 .s (.g (pQ p0 r1 er1) Tryz.call180 (.bx .nil)) <|.p 4 <|.jn false (ι := Bool) (fun j => ms 19 [(0, pV 0), (5, iV r1.2)] [(0, [.bx [.fz (lC 1 ae r1.1.b), iC r1.1.at_, bC j]])])
 (.ite (decide (r1.2 > p1))
 (.p 4 <|.ret true)
 (.ret r1.1.bad)) fun j1 =>
 .p 4 <|.ite (j1)
 (.p 1 <|.ret (((⟨r1.1.b, r1.1.at_, j1⟩ : Scan), 0)))
 (.p 2 <|.ret (((⟨r1.1.b, r1.1.at_, j1⟩ : Scan), r1.2)))
def il (p0 : Scan) (p1 : Int) : Option (Scan × Int) := (mu p0 p1).den
theorem FX (p0 : Scan) (p1 : Int) (v : Scan × Int) (h : il p0 p1 = some v) : lA Tryz.prog 179 [.bx [.fz (lC 1 ae p0.b), iC p0.at_, bC p0.bad]] [pV 0, iV p1] [.bx [.fz (lC 1 ae v.1.b), iC v.1.at_, bC v.1.bad]] (iV v.2) [] :=
 (mu p0 p1).Di aG Tryz.func179 rfl (outs := (fun v : Scan × Int => [.bx [.fz (lC 1 ae v.1.b), iC v.1.at_, bC v.1.bad]])) (res := (fun v => iV v.2)) (row := fun v => []) (Nat.le_of_ble_eq_true rfl) (by kernel_rfl) h
def xh (p0 : (List Int)) (p1 : Int) : Wk (ByteArray × Int) :=
 .p 4 <|.bnd (uy p0 p1) fun r1 er1 =>
 .s (.call (DZ p0 p1 r1 er1) Tryz.call204) <|.p 5 <|.jn false (ι := Bool) (fun j => ms 34 [(0, lV 1 ae p0), (6, iV r1.1), (7, iV r1.2), (23, bV j)] [])
 (.p 3 <|.cut 16 (decide (r1.2 < 0))
 (.p 7 <|.ret true)
 (.p 7 <|.ret (decide (r1.1 > (IntKind.wrap .i64 (((p0.map ae).length : Int) - r1.2)))))) fun j1 =>
 .ite (j1)
 (.p 2 <|.ret (((⟨#[]⟩ : ByteArray), -1)))
 (.p 5 <|.chk (0 <= (r1.2 : Int) /\ (r1.2 : Int) <= (IntKind.wrap .i64 (r1.2 + r1.1)) /\ (IntKind.wrap .i64 (r1.2 + r1.1)) <= ((p0).length : Int)) fun c1 =>
 .s (.YQ ae p0 c1) <|.chk (∀ n ∈ ((((p0).take ((IntKind.wrap .i64 (r1.2 + r1.1)).toNat)).drop ((r1.2).toNat)) : List Int), 0 <= n /\ n < 256) fun c2 =>
 .s (.str c2) <|.p 5 <|.ret ((strOfNums ((((p0).take ((IntKind.wrap .i64 (r1.2 + r1.1)).toNat)).drop ((r1.2).toNat))), IntKind.wrap .i64 (r1.2 + r1.1))))
def ux (p0 : (List Int)) (p1 : Int) : Option (ByteArray × Int) := (xh p0 p1).den
theorem LJ (p0 : (List Int)) (p1 : Int) (v : ByteArray × Int) (h : ux p0 p1 = some v) : ab Tryz.prog 205 [lV 1 ae p0, iV p1] (.tup [.one (.c (sC v.1)), .one (.c (iC v.2))]) [] :=
 (xh p0 p1).call aG Tryz.func205 rfl (res := (fun v => .tup [.one (.c (sC v.1)), .one (.c (iC v.2))])) (row := fun v => []) (by kernel_rfl) h
def mv (p0 : Scan) : Wk (Scan × ByteArray) :=
 .p 1 <|.bnd (ux p0.b p0.at_) fun r1 er1 =>
 .drawn [] [(8, .call (LJ p0.b p0.at_ r1 er1) Tryz.call205)] (ms 33 [(0, pV 0), (3, sV r1.1), (4, iV r1.2)] [(0, [.bx [.fz (lC 1 ae p0.b), iC p0.at_, bC p0.bad]])]) <|.jn false (ι := Bool) (fun j => ms 33 [(0, pV 0), (3, sV r1.1), (4, iV r1.2), (24, bV j)] [(0, [.bx [.fz (lC 1 ae p0.b), iC p0.at_, bC p0.bad]])])
 (.p 5 <|.cut 21 (p0.bad)
 (.p 3 <|.ret true)
 (.p 3 <|.ret (decide (r1.2 < 0)))) fun j1 =>
 .ite (j1)
 (.p 5 <|.ret (((⟨p0.b, p0.at_, true⟩ : Scan), (⟨#[]⟩ : ByteArray))))
 (.p 7 <|.ret (((⟨p0.b, r1.2, p0.bad⟩ : Scan), r1.1)))
def fy (p0 : Scan) : Option (Scan × ByteArray) := (mv p0).den
theorem uN (p0 : Scan) (v : Scan × ByteArray) (h : fy p0 = some v) : lA Tryz.prog 181 [.bx [.fz (lC 1 ae p0.b), iC p0.at_, bC p0.bad]] [pV 0] [.bx [.fz (lC 1 ae v.1.b), iC v.1.at_, bC v.1.bad]] (sV v.2) [] :=
 (mv p0).Di aG Tryz.func181 rfl (outs := (fun v : Scan × ByteArray => [.bx [.fz (lC 1 ae v.1.b), iC v.1.at_, bC v.1.bad]])) (res := (fun v => sV v.2)) (row := fun v => []) (Nat.le_of_ble_eq_true rfl) (by kernel_rfl) h
def HA (p0 : ByteArray) : Wk (Bool) :=
 .p 5 <|.ret (decide (((p0.size : Int)) <= 60))
def AK (p0 : ByteArray) : Option (Bool) := (HA p0).den
theorem Jj (p0 : ByteArray) (v : Bool) (h : AK p0 = some v) : ab Tryz.prog 217 [sV p0] (bV v) [] :=
 (HA p0).call aG Tryz.func217 rfl (res := (fun v => bV v)) (row := fun v => []) (by kernel_rfl) h
def nw (p0 : ch) (s1 : Int) : Wk (Int ⊕ (Unit ⊕ (Bool))) :=
 .p 1 <|.ite (decide (s1 < ((p0.keys.map aq).length : Int)))
 (.eb <|.p 1 <|.bnd (aB p0.keys s1) fun x1 ex1 =>
 .s (.idx aq ex1) <|.p 3 <|.jn false (ι := Bool) (fun j => ms 94 [(1, pV 1), (10, lV 1 aq p0.keys), (11, iV ((p0.keys.map aq).length : Int)), (12, iV s1), (33, bV j)] [(1, [.bx [.fz (lC 1 aq p0.keys), .fz (lC 1 aq p0.vals), .fz (lC 1 ah p0.kids)]])])
 (.p 1 <|.bnd (wD x1) fun r1 er1 =>
 .s (.call (AT x1 r1 er1) Tryz.call109) <|.p 2 <|.cut 20 (!r1)
 (.p 13 <|.ret true)
 (.p 3 <|.cut 23 (decide (s1 > 0))
 (.p 4 <|.bnd (aB p0.keys (IntKind.wrap .i64 (s1 - 1))) fun x2 ex2 =>
 .s (.idx aq ex2) <|.p 5 <|.ret (!Op.bytesLess x2.toList x1.toList))
 (.p 10 <|.ret false))) fun j1 =>
 .ite (j1)
 (.p 1 <|.ret (.inr (.inr false)))
 (.p 2 <|.ret (.inl (IntKind.wrap .i64 (s1 + 1)))))
 (.ret (.inr (.inl (()))))
def ny (p0 : ch) (s2 : Int) : Wk (Int ⊕ (Unit ⊕ (Bool))) :=
 .p 1 <|.ite (decide (s2 < ((p0.vals.map aq).length : Int)))
 (.eb <|.bnd (aB p0.vals s2) fun x2 ex2 =>
 .s (.idx aq ex2) <|.p 3 <|.bnd (AK x2) fun r2 er2 =>
 .s (.call (Jj x2 r2 er2) Tryz.call217) <|.p 1 <|.ite (!r2)
 (.p 1 <|.ret (.inr (.inr false)))
 (.p 2 <|.ret (.inl (IntKind.wrap .i64 (s2 + 1)))))
 (.ret (.inr (.inl (()))))
def nz (p0 : ch) (s3 : Int) : Wk (Int ⊕ (Unit ⊕ (Bool))) :=
 .p 1 <|.ite (decide (s3 < ((p0.kids.map ah).length : Int)))
 (.eb <|.bnd (aB p0.kids s3) fun x3 ex3 =>
 .s (.idx ah ex3) <|.p 3 <|.bnd (aH x3 2 399) fun r3 er3 =>
 .s (.call (av x3 2 399 r3 er3) Tryz.call34) <|.p 1 <|.ite (!r3)
 (.p 1 <|.ret (.inr (.inr false)))
 (.p 2 <|.ret (.inl (IntKind.wrap .i64 (s3 + 1)))))
 (.ret (.inr (.inl (()))))
def Ct (p0 : ch) : Wk (Bool) :=
 .p 6 <|.join true (ι := Unit) (fun j => ms 94 [(1, pV 1)] [(1, [.bx [.fz (lC 1 aq p0.keys), .fz (lC 1 aq p0.vals), .fz (lC 1 ah p0.kids)]])])
 (.eb <|.loop (σ := Int) (fun s1 => ms 94 [(1, pV 1), (10, lV 1 aq p0.keys), (11, iV ((p0.keys.map aq).length : Int)), (12, iV s1)] [(1, [.bx [.fz (lC 1 aq p0.keys), .fz (lC 1 aq p0.vals), .fz (lC 1 ah p0.kids)]])]) 0 (nw p0)) fun j2 =>
 .p 4 <|.join true (ι := Unit) (fun j => ms 94 [(1, pV 1)] [(1, [.bx [.fz (lC 1 aq p0.keys), .fz (lC 1 aq p0.vals), .fz (lC 1 ah p0.kids)]])])
 (.eb <|.loop (σ := Int) (fun s2 => ms 94 [(1, pV 1), (36, lV 1 aq p0.vals), (37, iV ((p0.vals.map aq).length : Int)), (38, iV s2)] [(1, [.bx [.fz (lC 1 aq p0.keys), .fz (lC 1 aq p0.vals), .fz (lC 1 ah p0.kids)]])]) 0 (ny p0)) fun j3 =>
 .p 4 <|.join true (ι := Unit) (fun j => ms 94 [(1, pV 1)] [(1, [.bx [.fz (lC 1 aq p0.keys), .fz (lC 1 aq p0.vals), .fz (lC 1 ah p0.kids)]])])
 (.eb <|.loop (σ := Int) (fun s3 => ms 94 [(1, pV 1), (47, lV 1 ah p0.kids), (48, iV ((p0.kids.map ah).length : Int)), (49, iV s3)] [(1, [.bx [.fz (lC 1 aq p0.keys), .fz (lC 1 aq p0.vals), .fz (lC 1 ah p0.kids)]])]) 0 (nz p0)) fun j4 =>
 .p 4 <|.ite ((((p0.kids.map ah).length : Int) == 0))
 (.jn false (ι := Bool) (fun j => ms 94 [(2, bV j)] [])
 (.p 3 <|.bnd (aH ((p0.keys.map aq).length : Int) 1 4) fun r4 er4 =>
 .s (.call (av ((p0.keys.map aq).length : Int) 1 4 r4 er4) Tryz.call34) <|.p 1 <|.cut 65 (r4)
 (.p 9 <|.ret ((((p0.vals.map aq).length : Int) == ((p0.keys.map aq).length : Int))))
 (.p 9 <|.ret false)) fun j5 =>
 .ret j5)
 (.jn false (ι := Bool) (fun j => ms 94 [(2, bV j)] [])
 (.p 3 <|.bnd (aH ((p0.kids.map ah).length : Int) 2 4) fun r5 er5 =>
 .s (.call (av ((p0.kids.map ah).length : Int) 2 4 r5 er5) Tryz.call34) <|.p 1 <|.cut 78 (r5)
 (.p 10 <|.cut 88 ((((p0.keys.map aq).length : Int) == (IntKind.wrap .i64 (((p0.kids.map ah).length : Int) - 1))))
 (.p 6 <|.ret ((((p0.vals.map aq).length : Int) == 0)))
 (.p 6 <|.ret false))
 (.p 16 <|.ret false)) fun j6 =>
 .ret j6)
def zb (p0 : ch) : Option (Bool) := (Ct p0).den
theorem PJ (p0 : ch) (v : Bool) (h : zb p0 = some v) : ab Tryz.prog 206 [.agg [.c (lC 1 aq p0.keys), .c (lC 1 aq p0.vals), .c (lC 1 ah p0.kids)]] (bV v) [] :=
 (Ct p0).call aG Tryz.func206 rfl (res := (fun v => bV v)) (row := fun v => []) (by kernel_rfl) h
structure pA where
 v0 : (List Int)
 v1 : Int
structure mO where
 v0 : (List Int)
 v1 : Int
def tX (s1 : mO) : Wk (mO ⊕ pA) :=
 .p 2 <|.ite (decide (s1.v1 >= 128))
 (.eb <|.p 6 <|.chk (((s1.v0).length + (([IntKind.wrap .u8 (IntKind.wrap .i64 ((Int.tmod s1.v1 128) + 128))] : List Int)).length) * 1 <= 140737488355328) fun c1 =>
 .s (.app ae .lit c1) <|.p 4 <|.im (.ren 13 5 0) <|.ret (.inl ((⟨s1.v0 ++ ([IntKind.wrap .u8 (IntKind.wrap .i64 ((Int.tmod s1.v1 128) + 128))] : List Int), IntKind.wrap .i64 (Int.tdiv s1.v1 128)⟩ : mO))))
 (.ret (.inr ((⟨s1.v0, s1.v1⟩ : pA))))
def Nl (p0 : (List Int)) (p1 : Int) : Wk ((List Int)) :=
 .p 1 <|.jn true (ι := pA) (fun j => ms 21 [(0, .one (.so [] 5 0 (((j.v0).map ae).length))), (1, iV j.v1)] [(5, [lC 1 ae j.v0])])
 (.eb <|.im (.YW [] 0 0 5 0) <|.loop (σ := mO) (fun s1 => ms 21 [(0, .one (.so [] 5 0 (((s1.v0).map ae).length))), (1, iV s1.v1)] [(5, [lC 1 ae s1.v0])]) ((⟨p0, p1⟩ : mO)) (tX)) fun j1 =>
 .p 4 <|.chk (((j1.v0).length + (([IntKind.wrap .u8 j1.v1] : List Int)).length) * 1 <= 140737488355328) fun c2 =>
 .s (.app ae .lit c2) <|.p 1 <|.im (.yQ [(0, 0)]) <|.ret (j1.v0 ++ ([IntKind.wrap .u8 j1.v1] : List Int))
def yq (p0 : (List Int)) (p1 : Int) : Option ((List Int)) := (Nl p0 p1).den
theorem uO (p0 : (List Int)) (p1 : Int) (v : (List Int)) (h : yq p0 p1 = some v) : lA Tryz.prog 207 [lC 1 ae p0] [.one (.so [] 0 0 (((p0).map ae).length)), iV p1] [] (.one (.so [] 0 0 (((v).map ae).length))) [lC 1 ae v] :=
 (Nl p0 p1).Di aG Tryz.func207 rfl (outs := (fun v : (List Int) => [])) (res := (fun v => .one (.so [] 0 0 (((v).map ae).length)))) (row := (fun v => [lC 1 ae v])) (Nat.le_of_ble_eq_true rfl) (by kernel_rfl) h
def Nk (p0 : (List Int)) (p1 : ByteArray) : Wk ((List Int)) :=
 .p 4 <|.bnd (yq p0 ((p1.size : Int))) fun r1 er1 =>
 .s (.g (uO p0 ((p1.size : Int)) r1 er1) Tryz.call207 .nil) <|.p 1 <|.chk (((r1).length + (p1).size) * 1 <= 140737488355328) fun c1 =>
 .s (.apps c1) <|.p 1 <|.im (.yQ [(0, 0)]) <|.ret (r1 ++ bN p1)
def DU (p0 : (List Int)) (p1 : ByteArray) : Option ((List Int)) := (Nk p0 p1).den
theorem FZ (p0 : (List Int)) (p1 : ByteArray) (v : (List Int)) (h : DU p0 p1 = some v) : lA Tryz.prog 208 [lC 1 ae p0] [.one (.so [] 0 0 (((p0).map ae).length)), sV p1] [] (.one (.so [] 0 0 (((v).map ae).length))) [lC 1 ae v] :=
 (Nk p0 p1).Di aG Tryz.func208 rfl (outs := (fun v : (List Int) => [])) (res := (fun v => .one (.so [] 0 0 (((v).map ae).length)))) (row := (fun v => [lC 1 ae v])) (Nat.le_of_ble_eq_true rfl) (by kernel_rfl) h
structure eR where
 v4 : (List Int)
 v25 : Int
def eM (p0 : ch) (s1 : eR) : Wk (eR ⊕ (List Int)) :=
 .p 1 <|.ite (decide (s1.v25 < ((p0.keys.map aq).length : Int)))
 (.eb <|.p 1 <|.bnd (aB p0.keys s1.v25) fun x1 ex1 =>
 .s (.idx aq ex1) <|.p 3 <|.bnd (DU s1.v4 x1) fun r3 er3 =>
 .bnd (aB p0.vals s1.v25) fun x2 ex2 =>
 .bnd (DU r3 x2) fun r4 er4 =>
 .drawn [2, 8] [(2, .g (FZ s1.v4 x1 r3 er3) Tryz.call208 .nil), (6, .idx aq ex2), (8, .g (FZ r3 x2 r4 er4) Tryz.call208 .nil)] (ms 77 [(1, pV 1), (4, .one (.so [] 38 0 (((r4).map ae).length))), (23, lV 1 aq p0.keys), (24, iV ((p0.keys.map aq).length : Int)), (25, iV s1.v25)] [(1, [.bx [.fz (lC 1 aq p0.keys), .fz (lC 1 aq p0.vals), .fz (lC 1 ah p0.kids)]]), (38, [lC 1 ae r4])]) <|.p 2 <|.im (.ren 38 4 4) <|.ret (.inl ((⟨r4, IntKind.wrap .i64 (s1.v25 + 1)⟩ : eR))))
 (.ret (.inr s1.v4))
structure eS where
 v7 : (List Int)
 v57 : Int
def eN (p0 : ch) (s2 : eS) : Wk (eS ⊕ (List Int)) :=
 .p 1 <|.ite (decide (s2.v57 < ((p0.keys.map aq).length : Int)))
 (.eb <|.p 1 <|.bnd (aB p0.keys s2.v57) fun x4 ex4 =>
 .s (.idx aq ex4) <|.p 3 <|.bnd (DU s2.v7 x4) fun r8 er8 =>
 .bnd (aB p0.kids (IntKind.wrap .i64 (s2.v57 + 1))) fun x5 ex5 =>
 .bnd (yq r8 x5) fun r9 er9 =>
 .drawn [2, 9] [(2, .g (FZ s2.v7 x4 r8 er8) Tryz.call208 .nil), (7, .idx ah ex5), (9, .g (uO r8 x5 r9 er9) Tryz.call207 .nil)] (ms 77 [(1, pV 1), (7, .one (.so [] 71 0 (((r9).map ae).length))), (55, lV 1 aq p0.keys), (56, iV ((p0.keys.map aq).length : Int)), (57, iV s2.v57)] [(1, [.bx [.fz (lC 1 aq p0.keys), .fz (lC 1 aq p0.vals), .fz (lC 1 ah p0.kids)]]), (71, [lC 1 ae r9])]) <|.p 2 <|.im (.ren 71 7 7) <|.ret (.inl ((⟨r9, IntKind.wrap .i64 (s2.v57 + 1)⟩ : eS))))
 (.ret (.inr s2.v7))
def qM (p0 : ch) : Wk ((List Int) × Bool) :=
 .p 4 <|.bnd (zb p0) fun r1 er1 =>
 .s (.call (PJ p0 r1 er1) Tryz.call206) <|.p 1 <|.ite (!r1)
 (.p 2 <|.im (.Gv 2 2 1) <|.ret (([], false)))
 (.p 4 <|.ite ((((p0.kids.map ah).length : Int) == 0))
 (.p 4 <|.bnd (yq ([76]) ((p0.keys.map aq).length : Int)) fun r2 er2 =>
 .s (.g (uO ([76]) ((p0.keys.map aq).length : Int) r2 er2) Tryz.call207 .nil) <|.p 5 <|.jn true (ι := (List Int)) (fun j => ms 77 [(4, .one (.so [] 4 0 (((j).map ae).length)))] [(4, [lC 1 ae j])])
 (.eb <|.im (.ren 21 4 4) <|.loop (σ := eR) (fun s1 => ms 77 [(1, pV 1), (4, .one (.so [] 4 0 (((s1.v4).map ae).length))), (23, lV 1 aq p0.keys), (24, iV ((p0.keys.map aq).length : Int)), (25, iV s1.v25)] [(1, [.bx [.fz (lC 1 aq p0.keys), .fz (lC 1 aq p0.vals), .fz (lC 1 ah p0.kids)]]), (4, [lC 1 ae s1.v4])]) ((⟨r2, 0⟩ : eR)) (eM p0)) fun j1 =>
 .p 1 <|.bnd (DQ j1 512) fun r5 er5 =>
 .s (.ma (FP j1 512 r5 er5) Tryz.call203 (aN (ba gL _) (aw))) <|.p 4 <|.ret ((r5.1, r5.2)))
 (.bnd (yq ([66]) ((p0.keys.map aq).length : Int)) fun r6 er6 =>
 .bnd (aB p0.kids 0) fun x3 ex3 =>
 .bnd (yq r6 x3) fun r7 er7 =>
 .drawn [4, 9] [(4, .g (uO ([66]) ((p0.keys.map aq).length : Int) r6 er6) Tryz.call207 .nil), (7, .idx ah ex3), (9, .g (uO r6 x3 r7 er7) Tryz.call207 .nil)] (ms 77 [(1, pV 1), (7, .one (.so [] 53 0 (((r7).map ae).length)))] [(1, [.bx [.fz (lC 1 aq p0.keys), .fz (lC 1 aq p0.vals), .fz (lC 1 ah p0.kids)]]), (53, [lC 1 ae r7])]) <|.p 4 <|.jn true (ι := (List Int)) (fun j => ms 77 [(7, .one (.so [] 7 0 (((j).map ae).length)))] [(7, [lC 1 ae j])])
 (.eb <|.im (.ren 53 7 7) <|.loop (σ := eS) (fun s2 => ms 77 [(1, pV 1), (7, .one (.so [] 7 0 (((s2.v7).map ae).length))), (55, lV 1 aq p0.keys), (56, iV ((p0.keys.map aq).length : Int)), (57, iV s2.v57)] [(1, [.bx [.fz (lC 1 aq p0.keys), .fz (lC 1 aq p0.vals), .fz (lC 1 ah p0.kids)]]), (7, [lC 1 ae s2.v7])]) ((⟨r7, 0⟩ : eS)) (eN p0)) fun j2 =>
 .p 1 <|.bnd (DQ j2 512) fun r10 er10 =>
 .s (.ma (FP j2 512 r10 er10) Tryz.call203 (aN (ba gL _) (aw))) <|.p 4 <|.ret ((r10.1, r10.2))))
def kQ (p0 : ch) : Option ((List Int) × Bool) := (qM p0).den
theorem FR (p0 : ch) (v : (List Int) × Bool) (h : kQ p0 = some v) : ab Tryz.prog 182 [.agg [.c (lC 1 aq p0.keys), .c (lC 1 aq p0.vals), .c (lC 1 ah p0.kids)]] (.tup [.one (.so [] 0 0 (((v.1).map ae).length)), .one (.c (bC v.2))]) [lC 1 ae v.1] :=
 (qM p0).call aG Tryz.func182 rfl (res := (fun v => .tup [.one (.so [] 0 0 (((v.1).map ae).length)), .one (.c (bC v.2))])) (row := (fun v => [lC 1 ae v.1])) (by kernel_rfl) h
structure nV where
 eL : (List Int)
 iD : (List Int)
 iE : Int
 fG : Bool
structure gJ where
 jK : (List ByteArray)
 gY : (List ByteArray)
 eL : (List Int)
 iD : (List Int)
 iE : Int
 fG : Bool
structure et where
 v34 : Int
 jK : (List ByteArray)
 gY : (List ByteArray)
 eL : (List Int)
 iD : (List Int)
 iE : Int
 fG : Bool
structure nW where
 gY : (List ByteArray)
 eL : (List Int)
 iD : (List Int)
 iE : Int
 fG : Bool
def cD (p0 : (List Int)) (r1 : Scan × Int) (s1 : et) : Wk (et ⊕ gJ) :=
 .p 1 <|.ite (decide (s1.v34 < r1.2))
 (.eb <|.p 1 <|.bnd (fy ((⟨s1.iD, s1.iE, s1.fG⟩ : Scan))) fun r3 er3 =>
 .s (.g (uN ((⟨s1.iD, s1.iE, s1.fG⟩ : Scan)) r3 er3) Tryz.call181 (.bx .nil)) <|.p 5 <|.chk (((s1.jK).length + (([r3.2] : List ByteArray)).length) * 16 <= 140737488355328) fun c1 =>
 .s (.app aq .lit c1) <|.p 1 <|.s (.o) <|.p 1 <|.bnd (aB p0 0) fun x2 ex2 =>
 .s (.idx ae ex2) <|.p 2 <|.jn false (ι := nW) (fun j => ms 87 [(0, lV 1 ae p0), (2, pV 2), (4, pV 18), (5, pV 5), (33, iV r1.2), (34, iV s1.v34)] [(2, [.bx [.sl 1 ([]), .sl 1 ([]), .sl 1 ([])]]), (5, [.bx [lC 1 aq (s1.jK ++ ([r3.2] : List ByteArray)), lC 1 aq j.gY, lC 1 ah j.eL]]), (18, [.bx [.fz (lC 1 ae j.iD), iC j.iE, bC j.fG]])])
 (.ite ((x2 == 66))
 (.p 1 <|.bnd (fY r3.1) fun r4 er4 =>
 .s (.g (pQ r3.1 r4 er4) Tryz.call180 (.bx .nil)) <|.p 5 <|.chk (((s1.eL).length + (([r4.2] : List Int)).length) * 8 <= 140737488355328) fun c2 =>
 .s (.app ah .lit c2) <|.p 1 <|.s (.o) <|.ret ((⟨s1.gY, s1.eL ++ ([r4.2] : List Int), r4.1.b, r4.1.at_, r4.1.bad⟩ : nW)))
 (.p 1 <|.bnd (fy r3.1) fun r5 er5 =>
 .s (.g (uN r3.1 r5 er5) Tryz.call181 (.bx .nil)) <|.p 5 <|.chk (((s1.gY).length + (([r5.2] : List ByteArray)).length) * 16 <= 140737488355328) fun c3 =>
 .s (.app aq .lit c3) <|.p 1 <|.s (.o) <|.ret ((⟨s1.gY ++ ([r5.2] : List ByteArray), s1.eL, r5.1.b, r5.1.at_, r5.1.bad⟩ : nW)))) fun j2 =>
 .p 2 <|.ret (.inl ((⟨IntKind.wrap .i64 (s1.v34 + 1), s1.jK ++ ([r3.2] : List ByteArray), j2.gY, j2.eL, j2.iD, j2.iE, j2.fG⟩ : et))))
 (.ret (.inr ((⟨s1.jK, s1.gY, s1.eL, s1.iD, s1.iE, s1.fG⟩ : gJ))))
def tB (p0 : (List Int)) : Wk (ch × Bool) :=
 .p 5 <|.ite ((((p0.map ae).length : Int) != 512))
 (.p 3 <|.ret (((⟨[], [], []⟩ : ch), false)))
 (.p 8 <|.bnd (il ((⟨p0, 1, false⟩ : Scan)) 4) fun r1 er1 =>
 .s (.g (FX ((⟨p0, 1, false⟩ : Scan)) 4 r1 er1) Tryz.call179 (.bx .nil)) <|.p 2 <|.bnd (aB p0 0) fun x1 ex1 =>
 .s (.idx ae ex1) <|.p 2 <|.jn false (ι := nV) (fun j => ms 87 [(0, lV 1 ae p0), (2, pV 2), (4, pV 18), (5, pV 5), (6, iV r1.2)] [(2, [.bx [.sl 1 ([]), .sl 1 ([]), .sl 1 ([])]]), (5, [.bx [.sl 1 ([]), .sl 1 ([]), lC 1 ah j.eL]]), (18, [.bx [.fz (lC 1 ae j.iD), iC j.iE, bC j.fG]])])
 (.ite ((x1 == 66))
 (.bnd (fY r1.1) fun r2 er2 =>
 .drawn [3, 5, 7] [(3, .g (pQ r1.1 r2 er2) Tryz.call180 (.bx .nil))] (ms 87 [(0, lV 1 ae p0), (2, pV 2), (4, pV 18), (5, pV 5), (6, iV r1.2)] [(2, [.bx [.sl 1 ([]), .sl 1 ([]), .sl 1 ([])]]), (5, [.bx [.sl 1 ([]), .sl 1 ([]), .sl 1 ([[iC r2.2]])]]), (18, [.bx [.fz (lC 1 ae r2.1.b), iC r2.1.at_, bC r2.1.bad]])]) <|.ret ((⟨([r2.2] : List Int), r2.1.b, r2.1.at_, r2.1.bad⟩ : nV)))
 (.ret ((⟨([] : List Int), r1.1.b, r1.1.at_, r1.1.bad⟩ : nV)))) fun j1 =>
 .p 2 <|.jn true (ι := gJ) (fun j => ms 87 [(0, lV 1 ae p0), (2, pV 2), (4, pV 18), (5, pV 5)] [(2, [.bx [.sl 1 ([]), .sl 1 ([]), .sl 1 ([])]]), (5, [.bx [lC 1 aq j.jK, lC 1 aq j.gY, lC 1 ah j.eL]]), (18, [.bx [.fz (lC 1 ae j.iD), iC j.iE, bC j.fG]])])
 (.eb <|.loop (σ := et) (fun s1 => ms 87 [(0, lV 1 ae p0), (2, pV 2), (4, pV 18), (5, pV 5), (33, iV r1.2), (34, iV s1.v34)] [(2, [.bx [.sl 1 ([]), .sl 1 ([]), .sl 1 ([])]]), (5, [.bx [lC 1 aq s1.jK, lC 1 aq s1.gY, lC 1 ah s1.eL]]), (18, [.bx [.fz (lC 1 ae s1.iD), iC s1.iE, bC s1.fG]])]) ((⟨0, ([] : List ByteArray), ([] : List ByteArray), j1.eL, j1.iD, j1.iE, j1.fG⟩ : et)) (cD p0 r1)) fun j3 =>
 .p 1 <|.bnd (kQ ((⟨j3.jK, j3.gY, j3.eL⟩ : ch))) fun r6 er6 =>
 .s (.ma (FR ((⟨j3.jK, j3.gY, j3.eL⟩ : ch)) r6 er6) Tryz.call182 (aN (ba gL _) (aw))) <|.p 5 <|.jn false (ι := Bool) (fun j => ms 87 [(2, pV 2), (5, pV 5), (84, bV j)] [(2, [.bx [.sl 1 ([]), .sl 1 ([]), .sl 1 ([])]]), (5, [.bx [lC 1 aq j3.jK, lC 1 aq j3.gY, lC 1 ah j3.eL]])])
 (.p 5 <|.cut 74 (j3.fG)
 (.p 10 <|.ret true)
 (.p 4 <|.cut 78 (!r6.2)
 (.p 6 <|.ret true)
 (.p 1 <|.chk (∀ n ∈ (r6.1 : List Int), 0 <= n /\ n < 256) fun c4 =>
 .s (.str c4) <|.p 1 <|.chk (∀ n ∈ (p0 : List Int), 0 <= n /\ n < 256) fun c5 =>
 .s (.str c5) <|.p 2 <|.ret (!((strOfNums r6.1).toList == (strOfNums p0).toList))))) fun j4 =>
 .ite (j4)
 (.p 3 <|.ret (((⟨[], [], []⟩ : ch), false)))
 (.p 1 <|.s (.o) <|.p 1 <|.ret (((⟨j3.jK, j3.gY, j3.eL⟩ : ch), true))))
def ri (p0 : (List Int)) : Option (ch × Bool) := (tB p0).den
theorem Jh (p0 : (List Int)) (v : ch × Bool) (h : ri p0 = some v) : ab Tryz.prog 154 [lV 1 ae p0] (.tup [.agg [.so [] 0 0 (((v.1.keys).map aq).length), .so [] 0 1 (((v.1.vals).map aq).length), .so [] 0 2 (((v.1.kids).map ah).length)], .one (.c (bC v.2))]) [lC 1 aq v.1.keys, lC 1 aq v.1.vals, lC 1 ah v.1.kids] :=
 (tB p0).call aG Tryz.func154 rfl (res := (fun v => .tup [.agg [.so [] 0 0 (((v.1.keys).map aq).length), .so [] 0 1 (((v.1.vals).map aq).length), .so [] 0 2 (((v.1.kids).map ah).length)], .one (.c (bC v.2))])) (row := (fun v => [lC 1 aq v.1.keys, lC 1 aq v.1.vals, lC 1 ah v.1.kids])) (by kernel_rfl) h
def pb (r4 : ch × Bool) (s1 : Int) : Wk (Int ⊕ Unit) :=
 .p 1 <|.ite (decide (s1 < ((r4.1.vals.map aq).length : Int)))
 (.eb <|.p 1 <|.bnd (aB r4.1.vals s1) fun x1 ex1 =>
 .s (.ixo aq ex1) <|.s (.ld aq (bO ex1).2) <|.p 2 <|.die)
 (.ret (.inr (())))
structure jz where
 cF : (List bb)
 cG : (List bc)
 aO : (List Node)
 gX : (List Int)
 gb : Bool
structure cP where
 v121 : Int
 cF : (List bb)
 cG : (List bc)
 aO : (List Node)
 gX : (List Int)
 gb : Bool
abbrev HS (recF : Reader -> Int -> Option (Reader)) : Prop := ∀ (p0 : Reader) (p1 : Int) (v : Reader), recF p0 p1 = some v -> lA Tryz.prog 113 [.bx [.fz (.bx (gZ p0.d)), lC 3 aa p0.nodes, lC 1 ah p0.places, bC p0.bad]] [pV 0, iV p1] [.bx [.fz (.bx (gZ v.d)), lC 3 aa v.nodes, lC 1 ah v.places, bC v.bad]] (.tup []) []
def fa (p0 : Reader) (p1 : Int) (recF : Reader -> Int -> Option (Reader)) (hrec : HS recF) (r4 : ch × Bool) (s2 : cP) : Wk (cP ⊕ jz) :=
 .p 1 <|.ite (decide (s2.v121 < ((r4.1.kids.map ah).length : Int)))
 (.eb <|.bnd (aB r4.1.kids s2.v121) fun x2 ex2 =>
 .s (.ixo ah ex2) <|.s (.ld ah (bO ex2).2) <|.p 1 <|.bnd (aB s2.aO ((p0.nodes.map aa).length : Int)) fun x3 ex3 =>
 .chk (((x3.kids).length + (([((s2.aO.map aa).length : Int)] : List Int)).length) * 8 <= 140737488355328) fun c3 =>
 .drawn [19, 22] [(3, .plh 144 (n' := ((((s2.aO).map aa).set (((p0.nodes).map aa).length) [lC 2 af x3.pairs, lC 1 aq x3.keys, .dead]).length)) (n := (((s2.aO).map aa).length)) (by simp)), (10, .ixo aa ex3), (12, .ld aa (bO ex3).2), (19, .Ze aa ah (bO ex3).2 2 .lit [0, 6, 11, 119, 120, 121, 125, 126, 127, 128, 129, 130, 131, 132, 133, 134, 135, 136, 138, 139, 140, 141, 142, 143, 144] (ys := x3.kids) c3), (20, .ixd aa (xs := s2.aO) (n := ((p0.nodes.map aa).length : Int)) [lC 2 af x3.pairs, lC 1 aq x3.keys, .dead] (by simpa using ur ex3)), (22, .ti (.ti (.ti (.std aa [lC 2 af x3.pairs, lC 1 aq x3.keys, .dead] ((⟨x3.pairs, x3.keys, x3.kids ++ ([((s2.aO.map aa).length : Int)] : List Int)⟩ : Node)) (bO ex3).2 rfl) (.wc 128 (show (.one (.so [(0, 0)] 0 1 (((s2.aO).map aa).length)) : TV) = .one (.so [(0, 0)] 0 1 (((s2.aO.set (((p0.nodes).map aa).length) ((⟨x3.pairs, x3.keys, x3.kids ++ ([((s2.aO.map aa).length : Int)] : List Int)⟩ : Node))).map aa).length)) by simp <;> omega))) (.wc 133 (show (.one (.so [(0, 0)] 0 1 (((s2.aO).map aa).length)) : TV) = .one (.so [(0, 0)] 0 1 (((s2.aO.set (((p0.nodes).map aa).length) ((⟨x3.pairs, x3.keys, x3.kids ++ ([((s2.aO.map aa).length : Int)] : List Int)⟩ : Node))).map aa).length)) by simp <;> omega))) (.wc 141 (show (.one (.so [(0, 0)] 0 1 (((s2.aO).map aa).length)) : TV) = .one (.so [(0, 0)] 0 1 (((s2.aO.set (((p0.nodes).map aa).length) ((⟨x3.pairs, x3.keys, x3.kids ++ ([((s2.aO.map aa).length : Int)] : List Int)⟩ : Node))).map aa).length)) by simp <;> omega)))] (ms 151 [(0, pV 0), (6, iV ((p0.nodes.map aa).length : Int)), (11, iV x2), (119, .one (.so [(4, 0)] 0 2 (((r4.1.kids).map ah).length))), (120, iV ((r4.1.kids.map ah).length : Int)), (121, iV s2.v121)] [(0, [.bx [.fz (.bx [lC 1 aj s2.cF, lC 2 ao s2.cG]), lC 3 aa (s2.aO.set (((p0.nodes).map aa).length) ((⟨x3.pairs, x3.keys, x3.kids ++ ([((s2.aO.map aa).length : Int)] : List Int)⟩ : Node))), lC 1 ah s2.gX, bC s2.gb]]), (4, [.bx [.dead, lC 1 aq r4.1.vals, lC 1 ah r4.1.kids]])]) <|.p 2 <|.bnd (recF ((⟨(⟨s2.cF, s2.cG⟩ : bp), s2.aO.set (((p0.nodes).map aa).length) ((⟨x3.pairs, x3.keys, x3.kids ++ ([((s2.aO.map aa).length : Int)] : List Int)⟩ : Node)), s2.gX, s2.gb⟩ : Reader)) x2) fun r5 er5 =>
 .s (.g (hrec ((⟨(⟨s2.cF, s2.cG⟩ : bp), s2.aO.set (((p0.nodes).map aa).length) ((⟨x3.pairs, x3.keys, x3.kids ++ ([((s2.aO.map aa).length : Int)] : List Int)⟩ : Node)), s2.gX, s2.gb⟩ : Reader)) x2 r5 er5) Tryz.call113 (.bx .nil)) <|.p 2 <|.ret (.inl ((⟨IntKind.wrap .i64 (s2.v121 + 1), r5.d.sheets, r5.d.dirty, r5.nodes, r5.places, r5.bad⟩ : cP))))
 (.ret (.inr ((⟨s2.cF, s2.cG, s2.aO, s2.gX, s2.gb⟩ : jz))))
structure cQ where
 v80 : Int
 KH : (List az)
def fb (p0 : Reader) (p1 : Int) (r4 : ch × Bool) (s3 : cQ) : Wk (cQ ⊕ (List az)) :=
 .p 1 <|.ite (decide (s3.v80 < ((r4.1.vals.map aq).length : Int)))
 (.eb <|.p 1 <|.bnd (aB r4.1.vals s3.v80) fun x4 ex4 =>
 .s (.ixo aq ex4) <|.s (.ld aq (bO ex4).2) <|.p 2 <|.bnd (aB r4.1.keys s3.v80) fun x5 ex5 =>
 .chk (((s3.KH).length + (([(⟨x5, x4⟩ : az)] : List az)).length) * 32 <= 140737488355328) fun c4 =>
 .drawn [10, 12] [(5, .ixo aq ex5), (6, .ld aq (bO ex5).2), (10, .app af .lit c4), (12, .o)] (ms 151 [(0, pV 0), (1, iV p1), (4, pV 4), (6, iV ((p0.nodes.map aa).length : Int)), (7, pV 7), (78, .one (.so [(4, 0)] 0 1 (((r4.1.vals).map aq).length))), (79, iV ((r4.1.vals.map aq).length : Int)), (80, iV s3.v80)] [(0, [.bx [.fz (.bx (gZ p0.d)), lC 3 aa p0.nodes, lC 1 ah p0.places, bC p0.bad]]), (4, [.bx [lC 1 aq r4.1.keys, lC 1 aq r4.1.vals, lC 1 ah r4.1.kids]]), (7, [.bx [lC 2 af (s3.KH ++ ([(⟨x5, x4⟩ : az)] : List az)), .sl 1 ([]), .sl 1 ([])]])]) <|.p 2 <|.ret (.inl ((⟨IntKind.wrap .i64 (s3.v80 + 1), s3.KH ++ ([(⟨x5, x4⟩ : az)] : List az)⟩ : cQ))))
 (.ret (.inr s3.KH))
structure jA where
 cF : (List bb)
 cG : (List bc)
 aO : (List Node)
 gX : (List Int)
 gb : Bool
structure dF where
 v121 : Int
 cF : (List bb)
 cG : (List bc)
 aO : (List Node)
 gX : (List Int)
 gb : Bool
def pc (p0 : Reader) (p1 : Int) (recF : Reader -> Int -> Option (Reader)) (hrec : HS recF) (r4 : ch × Bool) (s4 : dF) : Wk (dF ⊕ jA) :=
 .p 1 <|.ite (decide (s4.v121 < ((r4.1.kids.map ah).length : Int)))
 (.eb <|.bnd (aB r4.1.kids s4.v121) fun x6 ex6 =>
 .s (.ixo ah ex6) <|.s (.ld ah (bO ex6).2) <|.p 1 <|.bnd (aB s4.aO ((p0.nodes.map aa).length : Int)) fun x7 ex7 =>
 .chk (((x7.kids).length + (([((s4.aO.map aa).length : Int)] : List Int)).length) * 8 <= 140737488355328) fun c7 =>
 .drawn [19, 22] [(3, .plh 144 (n' := ((((s4.aO).map aa).set (((p0.nodes).map aa).length) [lC 2 af x7.pairs, lC 1 aq x7.keys, .dead]).length)) (n := (((s4.aO).map aa).length)) (by simp)), (10, .ixo aa ex7), (12, .ld aa (bO ex7).2), (19, .Ze aa ah (bO ex7).2 2 .lit [0, 6, 11, 119, 120, 121, 125, 126, 127, 128, 129, 130, 131, 132, 133, 134, 135, 136, 138, 139, 140, 141, 142, 143, 144] (ys := x7.kids) c7), (20, .ixd aa (xs := s4.aO) (n := ((p0.nodes.map aa).length : Int)) [lC 2 af x7.pairs, lC 1 aq x7.keys, .dead] (by simpa using ur ex7)), (22, .ti (.ti (.ti (.std aa [lC 2 af x7.pairs, lC 1 aq x7.keys, .dead] ((⟨x7.pairs, x7.keys, x7.kids ++ ([((s4.aO.map aa).length : Int)] : List Int)⟩ : Node)) (bO ex7).2 rfl) (.wc 128 (show (.one (.so [(0, 0)] 0 1 (((s4.aO).map aa).length)) : TV) = .one (.so [(0, 0)] 0 1 (((s4.aO.set (((p0.nodes).map aa).length) ((⟨x7.pairs, x7.keys, x7.kids ++ ([((s4.aO.map aa).length : Int)] : List Int)⟩ : Node))).map aa).length)) by simp <;> omega))) (.wc 133 (show (.one (.so [(0, 0)] 0 1 (((s4.aO).map aa).length)) : TV) = .one (.so [(0, 0)] 0 1 (((s4.aO.set (((p0.nodes).map aa).length) ((⟨x7.pairs, x7.keys, x7.kids ++ ([((s4.aO.map aa).length : Int)] : List Int)⟩ : Node))).map aa).length)) by simp <;> omega))) (.wc 141 (show (.one (.so [(0, 0)] 0 1 (((s4.aO).map aa).length)) : TV) = .one (.so [(0, 0)] 0 1 (((s4.aO.set (((p0.nodes).map aa).length) ((⟨x7.pairs, x7.keys, x7.kids ++ ([((s4.aO.map aa).length : Int)] : List Int)⟩ : Node))).map aa).length)) by simp <;> omega)))] (ms 151 [(0, pV 0), (6, iV ((p0.nodes.map aa).length : Int)), (11, iV x6), (119, .one (.so [(4, 0)] 0 2 (((r4.1.kids).map ah).length))), (120, iV ((r4.1.kids.map ah).length : Int)), (121, iV s4.v121)] [(0, [.bx [.fz (.bx [lC 1 aj s4.cF, lC 2 ao s4.cG]), lC 3 aa (s4.aO.set (((p0.nodes).map aa).length) ((⟨x7.pairs, x7.keys, x7.kids ++ ([((s4.aO.map aa).length : Int)] : List Int)⟩ : Node))), lC 1 ah s4.gX, bC s4.gb]]), (4, [.bx [lC 1 aq r4.1.keys, lC 1 aq r4.1.vals, lC 1 ah r4.1.kids]])]) <|.p 2 <|.bnd (recF ((⟨(⟨s4.cF, s4.cG⟩ : bp), s4.aO.set (((p0.nodes).map aa).length) ((⟨x7.pairs, x7.keys, x7.kids ++ ([((s4.aO.map aa).length : Int)] : List Int)⟩ : Node)), s4.gX, s4.gb⟩ : Reader)) x6) fun r6 er6 =>
 .s (.g (hrec ((⟨(⟨s4.cF, s4.cG⟩ : bp), s4.aO.set (((p0.nodes).map aa).length) ((⟨x7.pairs, x7.keys, x7.kids ++ ([((s4.aO.map aa).length : Int)] : List Int)⟩ : Node)), s4.gX, s4.gb⟩ : Reader)) x6 r6 er6) Tryz.call113 (.bx .nil)) <|.p 2 <|.ret (.inl ((⟨IntKind.wrap .i64 (s4.v121 + 1), r6.d.sheets, r6.d.dirty, r6.nodes, r6.places, r6.bad⟩ : dF))))
 (.ret (.inr ((⟨s4.cF, s4.cG, s4.aO, s4.gX, s4.gb⟩ : jA))))
def cX (recF : Reader -> Int -> Option (Reader)) (hrec : HS recF) (p0 : Reader) (p1 : Int) : Wk (Reader) :=
 .jn false (ι := Bool) (fun j => ms 151 [(0, pV 0), (1, iV p1), (45, bV j)] [(0, [.bx [.fz (.bx (gZ p0.d)), lC 3 aa p0.nodes, lC 1 ah p0.places, bC p0.bad]])])
 (.p 5 <|.cut 16 (p0.bad)
 (.p 29 <|.ret true)
 (.p 10 <|.bnd (aH p1 0 (IntKind.wrap .i64 (((p0.d.sheets.map aj).length : Int) - 1))) fun r1 er1 =>
 .s (.call (av p1 0 (IntKind.wrap .i64 (((p0.d.sheets.map aj).length : Int) - 1)) r1 er1) Tryz.call34) <|.p 3 <|.cut 30 (!r1)
 (.p 15 <|.ret true)
 (.p 5 <|.bnd (dg p0.places p1) fun r2 er2 =>
 .s (.ma (eF p0.places p1 r2 er2) Tryz.call80 (aw)) <|.p 2 <|.cut 38 (r2)
 (.p 7 <|.ret true)
 (.p 7 <|.ret ((((p0.nodes.map aa).length : Int) == 400)))))) fun j1 =>
 .ite (j1)
 (.p 4 <|.ret ((⟨p0.d, p0.nodes, p0.places, true⟩ : Reader)))
 (.p 5 <|.bnd (kO p0.d p1) fun r3 er3 =>
 .s (.call (uL p0.d p1 r3 er3) Tryz.call153) <|.bnd (ri r3) fun r4 er4 =>
 .s (.ma (Jh r3 r4 er4) Tryz.call154 (aN (ba NA _) (aN (ba NA _) (aN (ba DE _) (aw))))) <|.p 4 <|.s (.o) <|.p 3 <|.ite (!r4.2)
 (.p 4 <|.ret ((⟨p0.d, p0.nodes, p0.places, true⟩ : Reader)))
 (.p 13 <|.ite (decide (((r4.1.kids.map ah).length : Int) > 0))
 (.p 3 <|.s (.o) <|.p 4 <|.jn true (ι := Unit) (fun j => ms 151 [(0, pV 0), (1, iV p1), (4, pV 4), (6, iV ((p0.nodes.map aa).length : Int)), (7, pV 7)] [(0, [.bx [.fz (.bx (gZ p0.d)), lC 3 aa p0.nodes, lC 1 ah p0.places, bC p0.bad]]), (4, [.bx [.dead, lC 1 aq r4.1.vals, lC 1 ah r4.1.kids]]), (7, [.bx [.sl 2 ([]), lC 1 aq r4.1.keys, .sl 1 ([])]])])
 (.eb <|.loop (σ := Int) (fun s1 => ms 151 [(0, pV 0), (1, iV p1), (4, pV 4), (6, iV ((p0.nodes.map aa).length : Int)), (7, pV 7), (78, .one (.so [(4, 0)] 0 1 (((r4.1.vals).map aq).length))), (79, iV ((r4.1.vals.map aq).length : Int)), (80, iV s1)] [(0, [.bx [.fz (.bx (gZ p0.d)), lC 3 aa p0.nodes, lC 1 ah p0.places, bC p0.bad]]), (4, [.bx [.dead, lC 1 aq r4.1.vals, lC 1 ah r4.1.kids]]), (7, [.bx [.sl 2 ([]), lC 1 aq r4.1.keys, .sl 1 ([])]])]) 0 (pb r4)) fun j2 =>
 .chk (((p0.nodes).length + 1) * 72 <= 140737488355328) fun c1 =>
 .drawn [6, 7, 10] [(6, .ob), (7, .YK aa (xs := p0.nodes) ((⟨[], r4.1.keys, []⟩ : Node)) c1), (10, .o)] (ms 151 [(0, pV 0), (1, iV p1), (4, pV 4), (6, iV ((p0.nodes.map aa).length : Int))] [(0, [.bx [.fz (.bx (gZ p0.d)), lC 3 aa (p0.nodes ++ [(⟨[], r4.1.keys, []⟩ : Node)]), lC 1 ah p0.places, bC p0.bad]]), (4, [.bx [.dead, lC 1 aq r4.1.vals, lC 1 ah r4.1.kids]])]) <|.p 7 <|.chk (((p0.places).length + (([p1] : List Int)).length) * 8 <= 140737488355328) fun c2 =>
 .s (.app ah .lit c2) <|.p 2 <|.s (.o) <|.p 4 <|.jn true (ι := jz) (fun j => ms 151 [(0, pV 0)] [(0, [.bx [.fz (.bx [lC 1 aj j.cF, lC 2 ao j.cG]), lC 3 aa j.aO, lC 1 ah j.gX, bC j.gb]])])
 (.eb <|.loop (σ := cP) (fun s2 => ms 151 [(0, pV 0), (6, iV ((p0.nodes.map aa).length : Int)), (119, .one (.so [(4, 0)] 0 2 (((r4.1.kids).map ah).length))), (120, iV ((r4.1.kids.map ah).length : Int)), (121, iV s2.v121)] [(0, [.bx [.fz (.bx [lC 1 aj s2.cF, lC 2 ao s2.cG]), lC 3 aa s2.aO, lC 1 ah s2.gX, bC s2.gb]]), (4, [.bx [.dead, lC 1 aq r4.1.vals, lC 1 ah r4.1.kids]])]) ((⟨0, p0.d.sheets, p0.d.dirty, p0.nodes ++ [(⟨[], r4.1.keys, []⟩ : Node)], p0.places ++ ([p1] : List Int), p0.bad⟩ : cP)) (fa p0 p1 recF hrec r4)) fun j3 =>
 .ret ((⟨(⟨j3.cF, j3.cG⟩ : bp), j3.aO, j3.gX, j3.gb⟩ : Reader)))
 (.p 4 <|.jn true (ι := (List az)) (fun j => ms 151 [(0, pV 0), (1, iV p1), (4, pV 4), (6, iV ((p0.nodes.map aa).length : Int)), (7, pV 7)] [(0, [.bx [.fz (.bx (gZ p0.d)), lC 3 aa p0.nodes, lC 1 ah p0.places, bC p0.bad]]), (4, [.bx [lC 1 aq r4.1.keys, lC 1 aq r4.1.vals, lC 1 ah r4.1.kids]]), (7, [.bx [lC 2 af j, .sl 1 ([]), .sl 1 ([])]])])
 (.eb <|.loop (σ := cQ) (fun s3 => ms 151 [(0, pV 0), (1, iV p1), (4, pV 4), (6, iV ((p0.nodes.map aa).length : Int)), (7, pV 7), (78, .one (.so [(4, 0)] 0 1 (((r4.1.vals).map aq).length))), (79, iV ((r4.1.vals.map aq).length : Int)), (80, iV s3.v80)] [(0, [.bx [.fz (.bx (gZ p0.d)), lC 3 aa p0.nodes, lC 1 ah p0.places, bC p0.bad]]), (4, [.bx [lC 1 aq r4.1.keys, lC 1 aq r4.1.vals, lC 1 ah r4.1.kids]]), (7, [.bx [lC 2 af s3.KH, .sl 1 ([]), .sl 1 ([])]])]) ((⟨0, ([] : List az)⟩ : cQ)) (fb p0 p1 r4)) fun j4 =>
 .chk (((p0.nodes).length + 1) * 72 <= 140737488355328) fun c5 =>
 .drawn [6, 7, 10] [(6, .ob), (7, .YK aa (xs := p0.nodes) ((⟨j4, [], []⟩ : Node)) c5), (10, .o)] (ms 151 [(0, pV 0), (1, iV p1), (4, pV 4), (6, iV ((p0.nodes.map aa).length : Int))] [(0, [.bx [.fz (.bx (gZ p0.d)), lC 3 aa (p0.nodes ++ [(⟨j4, [], []⟩ : Node)]), lC 1 ah p0.places, bC p0.bad]]), (4, [.bx [lC 1 aq r4.1.keys, lC 1 aq r4.1.vals, lC 1 ah r4.1.kids]])]) <|.p 7 <|.chk (((p0.places).length + (([p1] : List Int)).length) * 8 <= 140737488355328) fun c6 =>
 .s (.app ah .lit c6) <|.p 2 <|.s (.o) <|.p 4 <|.jn true (ι := jA) (fun j => ms 151 [(0, pV 0)] [(0, [.bx [.fz (.bx [lC 1 aj j.cF, lC 2 ao j.cG]), lC 3 aa j.aO, lC 1 ah j.gX, bC j.gb]])])
 (.eb <|.loop (σ := dF) (fun s4 => ms 151 [(0, pV 0), (6, iV ((p0.nodes.map aa).length : Int)), (119, .one (.so [(4, 0)] 0 2 (((r4.1.kids).map ah).length))), (120, iV ((r4.1.kids.map ah).length : Int)), (121, iV s4.v121)] [(0, [.bx [.fz (.bx [lC 1 aj s4.cF, lC 2 ao s4.cG]), lC 3 aa s4.aO, lC 1 ah s4.gX, bC s4.gb]]), (4, [.bx [lC 1 aq r4.1.keys, lC 1 aq r4.1.vals, lC 1 ah r4.1.kids]])]) ((⟨0, p0.d.sheets, p0.d.dirty, p0.nodes ++ [(⟨j4, [], []⟩ : Node)], p0.places ++ ([p1] : List Int), p0.bad⟩ : dF)) (pc p0 p1 recF hrec r4)) fun j5 =>
 .ret ((⟨(⟨j5.cF, j5.cG⟩ : bp), j5.aO, j5.gX, j5.gb⟩ : Reader)))))
theorem yO (recF : Reader -> Int -> Option (Reader)) (hrec : HS recF) (p0 : Reader) (p1 : Int) (v : Reader) (h : (cX recF hrec p0 p1).den = some v) : lA Tryz.prog 113 [.bx [.fz (.bx (gZ p0.d)), lC 3 aa p0.nodes, lC 1 ah p0.places, bC p0.bad]] [pV 0, iV p1] [.bx [.fz (.bx (gZ v.d)), lC 3 aa v.nodes, lC 1 ah v.places, bC v.bad]] (.tup []) [] :=
 (cX recF hrec p0 p1).Di aG Tryz.func113 rfl (outs := (fun v : Reader => [.bx [.fz (.bx (gZ v.d)), lC 3 aa v.nodes, lC 1 ah v.places, bC v.bad]])) (res := (fun v => .tup [])) (row := fun v => []) (Nat.le_of_ble_eq_true rfl) (by kernel_rfl) h
def aL : Nat -> { recF : Reader -> Int -> Option (Reader) // HS recF }
 | 0 => ⟨fun _ _ => none, fun _ _ _ h => nomatch h⟩
 | k + 1 => ⟨fun p0 p1 => (cX (aL k).1 (aL k).2 p0 p1).den, fun p0 p1 v h => yO (aL k).1 (aL k).2 p0 p1 v h⟩
def oB (p0 : Reader) (p1 : Int) : Option (Reader) := lim fun k => (aL k).1 p0 p1
theorem AV (p0 : Reader) (p1 : Int) (v : Reader) (h : oB p0 p1 = some v) : lA Tryz.prog 113 [.bx [.fz (.bx (gZ p0.d)), lC 3 aa p0.nodes, lC 1 ah p0.places, bC p0.bad]] [pV 0, iV p1] [.bx [.fz (.bx (gZ v.d)), lC 3 aa v.nodes, lC 1 ah v.places, bC v.bad]] (.tup []) [] := by
 obtain ⟨k, hk⟩ := Bx h
 exact (aL k).2 p0 p1 v hk
def qP (p0 : (List az)) : Wk ((List az)) :=
 .p 2 <|.chk (((([] : List az)).length + (p0).length) * 32 <= 140737488355328) fun c1 =>
 .s (.app af .ro c1) <|.p 1 <|.ret p0
def oA (p0 : (List az)) : Option ((List az)) := (qP p0).den
theorem FV (p0 : (List az)) (v : (List az)) (h : oA p0 = some v) : ab Tryz.prog 209 [lV 2 af p0] (.one (.so [] 0 0 (((v).map af).length))) [lC 2 af v] :=
 (qP p0).call aG Tryz.func209 rfl (res := (fun v => .one (.so [] 0 0 (((v).map af).length)))) (row := (fun v => [lC 2 af v])) (by kernel_rfl) h
def mH (p0 : (Option gi)) : Wk (Bool) :=
 .p 2 <|.bnd (p0) fun y1 ey1 =>
 .im (.con 3 (kT (e := cY) ey1)) <|.p 6 <|.ret ((((y1.kids.map eR1).length : Int) == 0))
def jY (p0 : (Option gi)) : Option (Bool) := (mH p0).den
theorem AY (p0 : (Option gi)) (v : Bool) (h : jY p0 = some v) : ab Tryz.prog 218 [.one (.c (.fz (oP cY p0)))] (bV v) [] :=
 (mH p0).call aG Tryz.func218 rfl (res := (fun v => bV v)) (row := fun v => []) (by kernel_rfl) h
def gn (s1 : (Option gi)) : Wk ((Option gi) ⊕ (Option gi)) :=
 .p 1 <|.bnd (jY s1) fun r1 er1 =>
 .s (.call (AY s1 r1 er1) Tryz.call218) <|.p 1 <|.ite (!r1)
 (.eb <|.p 1 <|.bnd (s1) fun y1 ey1 =>
 .im (.con 6 (kT (e := cY) ey1)) <|.p 3 <|.bnd (aB y1.kids 0) fun x1 ex1 =>
 .bnd (rdE wQ x1) fun y2 ey2 =>
 .s (.idx eR1 ex1) <|.im (.wc 10 (show (.one (.fp (eR1 x1) 0) : TV) = .one (.fp [.fz (.bx (cY y2))] 0) by rw [<- yD ey2]; rfl)) <|.p 2 <|.im (.con 0 (uI (e := cY) y2)) <|.ret (.inl ((some y2))))
 (.ret (.inr s1))
def oW (p0 : (Option gi)) : Wk (ByteArray) :=
 .p 1 <|.jn true (ι := (Option gi)) (fun j => ms 19 [(0, .one (.c (.fz (oP cY j))))] [])
 (.eb <|.loop (σ := (Option gi)) (fun s1 => ms 19 [(0, .one (.c (.fz (oP cY s1))))] []) p0 (gn)) fun j1 =>
 .p 1 <|.bnd (j1) fun y3 ey3 =>
 .im (.con 12 (kT (e := cY) ey3)) <|.p 3 <|.bnd (aB y3.pairs 0) fun x2 ex2 =>
 .s (.idx af ex2) <|.p 3 <|.ret x2.key
def lY (p0 : (Option gi)) : Option (ByteArray) := (oW p0).den
theorem Dn (p0 : (Option gi)) (v : ByteArray) (h : lY p0 = some v) : ab Tryz.prog 210 [.one (.c (.fz (oP cY p0)))] (sV v) [] :=
 (oW p0).call aG Tryz.func210 rfl (res := (fun v => sV v)) (row := fun v => []) (by kernel_rfl) h
end
end Go.Proofs.YtgenimghpoemmaaGreatDoor
