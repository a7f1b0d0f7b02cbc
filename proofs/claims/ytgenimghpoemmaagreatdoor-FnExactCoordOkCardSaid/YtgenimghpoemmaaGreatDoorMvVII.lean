/- What strings.genSplit and the index of one byte hand back, by the contracts of the shelf, for every text and every such separator. -/
import Derived.Test.YtgenimghpoemmaaGreatDoorMvVI
import Derived.Shelf.Strings.SplitCore
import Derived.Shelf.Strings.Count
import Derived.Shelf.Strings.Search3
import Derived.Lib.SplitLaws
set_option linter.unusedVariables false
set_option linter.unusedSimpArgs false
namespace Go.Mv
open Go.RowKit Go.Shelf Go.Proofs
noncomputable def OL (s sep : ByteArray) (sv n : Int) : Option (List ByteArray) :=
 if sep.size = 1 /\ sv = 0 /\ n = -1 /\ s.size < 4294967281 then some (Lib.splitB sep 0 (Lib.countB s sep) s) else none
theorem Ex {w : World} {S : Nat -> Prop} : ∀ xs : List ByteArray, bG w S (xs.map fun s => [sC s]).flatten (xs.map Value.string)
 | [] => .nil
 | x :: xs => by
  simp only [List.map_cons, List.flatten_cons, List.singleton_append]
  exact .cons (.v rfl) (Ex xs)
theorem To {w : World} {S : Nat -> Prop} (hS : ∀ b, S b -> b < w.heap.size) (xs : List ByteArray) (t : TypeId) :
  Ret w S (w.alloc (.cells (xs.map Value.string).toArray t)) (.one (.c (.sl 1 (xs.map fun s => [sC s])))) [] (.slice (some ⟨w.heap.size, 0, none⟩) xs.length xs.length) := by
 refine ⟨(Below.refl _ w).alloc (Nat.le_refl _) _, fun b => S b \/ b = w.heap.size, fun _ => none, fun _ h => .inl h, fun b h => ?_, fun b h => ?_, JM, ?_, fun q rows l _ _ hl => by cases hl⟩
 ·rcases h with h | h
  ·exact .inl h
  ·exact .inr (by omega)
 ·have hsz : (w.alloc (.cells (xs.map Value.string).toArray t)).heap.size = w.heap.size + 1 := by simp
  rcases h with h | h
  ·have := hS b h; omega
  ·omega
 ·have hl : xs.length = (xs.map fun s => [sC s]).length := by simp
  have key : gd (w.alloc (.cells (xs.map Value.string).toArray t)) (fun b => S b \/ b = w.heap.size) (.sl 1 (xs.map fun s => [sC s])) (.slice (some ⟨w.heap.size, 0, none⟩) (xs.map fun s => [sC s]).length xs.length) := by
   refine .sl (vals := xs.map Value.string) (.inr rfl) (fun row hr => ?_) (Ex xs) (fun k v hk => ?_) (by simp)
   ·obtain ⟨s, _, rfl⟩ := List.mem_map.1 hr
    rfl
   ·rw [World.cell?_alloc_at _ _ _ _ rfl]
    simpa using hk
  rw [<- hl] at key
  exact key
theorem DW (c : UInt8) : ∀ l : List UInt8, Lib.index l [c] = Lib.indexByte l c
 | [] => by simp [Lib.index, Lib.indexByte]
 | b :: l => by
  rw [Lib.index, Lib.indexByte, DW c l]
  have e : ([c] : List UInt8).isPrefixOf (b :: l) = (b == c) := by
   simp only [List.isPrefixOf, Bool.and_true]
   exact Bool.eq_iff_iff.2 ⟨fun h => by simp at h; simp [h], fun h => by simp at h; simp [h]⟩
  rw [e]
theorem QD {P : Program} {ρ : Ren} (L : Lays.n221 P ρ) (hi9 : (P.info? (ρ.t 9)).map (fun i => (i.zero, i.size, i.bytes)) = some (some (.string ByteArray.empty), 1, 16))
  (s sep : ByteArray) (sv n : Int) (v : List ByteArray) (h : OL s sep sv n = some v) :
  ab P (ρ.f 221) [sV s, sV sep, iV sv, iV n] (.one (.c (.sl 1 (v.map fun s => [sC s])))) [] := fun w S vals hS hall => by
 unfold OL at h
 split at h
 case isFalse => cases h
 case isTrue hc =>
 obtain ⟨h1, rfl, rfl, hs⟩ := hc
 cases h
 obtain ⟨v1, vs, rfl, hv1, hall⟩ := hall.dQ
 obtain ⟨v2, vs2, rfl, hv2, hall⟩ := hall.dQ
 obtain ⟨v3, vs3, rfl, hv3, hall⟩ := hall.dQ
 obtain ⟨v4, vs4, rfl, hv4, hall⟩ := hall.dQ
 have e0 : vs4 = [] := List.eq_nil_of_length_eq_zero (by rw [<- hall.1]; rfl)
 subst e0
 have e1 := jC hv1
 have e2 := jC hv2
 have e3 := jC hv3
 have e4 := jC hv4
 subst e1 e2 e3 e4
 have hall := Lib.splitB_all sep (by omega) 0 (Lib.countB s sep) s rfl
 have hle := Lib.countB_le sep (by omega) s.size s (Nat.le_refl _)
 obtain ⟨c, rfl⟩ := Lib.one_byte sep h1
 have hcore := Any.strings_genSplit_core L hi9 s ⟨#[c]⟩ 0 (-1) (Lib.countB s ⟨#[c]⟩ + 1) w hs (by omega) (by omega)
  (fun x cs hx => (Any.strings_Index_one { L with } x c _).mono fun e w' hh => by rw [show Lib.indexB x ⟨#[c]⟩ = Lib.indexByte x.data.toList c from DW c _]; exact hh)
  ((Any.strings_Count_one { L with } s c w).mono fun e w' hh => by rw [show Lib.countB s ⟨#[c]⟩ = Lib.countByte s.data.toList c from Lib.count_one c _]; exact hh) (by omega) (by omega) (by
   rw [if_pos (by omega)]; omega)
 refine hcore.mono fun e w' hh => ⟨_, hh.1, ?_⟩
 rw [hh.2, show Lib.countB s ⟨#[c]⟩ + 1 - 1 = Lib.countB s ⟨#[c]⟩ from rfl, <- hall, Lib.cellsOf_full]
 exact To hS _ _
noncomputable def IV (s sep : ByteArray) : Option Int :=
 if sep.size = 1 then some (Lib.indexByte s.data.toList sep.data.toList.head!) else none
theorem PH {P : Program} {ρ : Ren} (L : Lays.n219 P ρ) (s sep : ByteArray) (v : Int) (h : IV s sep = some v) :
  ab P (ρ.f 219) [sV s, sV sep] (iV v) [] := fun w S vals hS hall => by
 unfold IV at h
 split at h
 case isFalse => cases h
 case isTrue h1 =>
 cases h
 obtain ⟨v1, vs, rfl, hv1, hall⟩ := hall.dQ
 obtain ⟨v2, vs2, rfl, hv2, hall⟩ := hall.dQ
 have e0 : vs2 = [] := List.eq_nil_of_length_eq_zero (by rw [<- hall.1]; rfl)
 subst e0
 have e1 := jC hv1
 have e2 := jC hv2
 subst e1 e2
 obtain ⟨c, rfl⟩ := Lib.one_byte sep h1
 exact (Any.stringslite_Index_one L s c w).mono fun e w' ⟨he, hw⟩ => ⟨_, he, by subst hw; exact SX hS (Below.refl _ _) rfl⟩
end Go.Mv
