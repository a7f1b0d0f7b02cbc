/-
  DERIVED. GIVEN WITH THE SEED: THE CARDS: each row of YtgenimghpoemmaaGreatDoorRows.lean that lists a variable, with what it lists TIED to the program's text (the seventh form; the later family's looks); each row that meets fmt, with fmt's text TOLD by the authors' own Lean function (tested against real Go, not proved from fmt's source: count such statements apart). THE CARD IS WHAT COUNTS. Prove the row's statement (the work); the ties are given (YtgenimghpoemmaaGreatDoorTie.lean); close each card by the builder's one call (the guide's Derived/Test/ToyasCard.lean, 'card_holds'). Laid BY PROGRAM, IN A SANDBOX (cutbox-door.mjs). By AI agents, Wed Nov 11 2026. No macro, syntax, notation, axiom, sorry.
-/
import Derived.Test.YtgenimghpoemmaaGreatDoorRows
import GoSem.ClaimSeven
namespace Go.Proofs.YtgenimghpoemmaaGreatDoor
namespace Rows

/-- THE TIED CARD OF 'laws.FnExactCoordOk'. -/
def fnExactCoordOkCard : Claim7 := { stood := { row := fnExactCoordOkRow, standIns := [], harness := (true, "ac3be0d12b0473b26f51abc03a758a5bfe7bf17c7b653a1aa777fe9b1c6c4129"), looks := false }, kinds := [], alts := [], laidByText := true, laidKinds := [.data, .pinned], laidTests := true, laidLooks := .later }
def FnExactCoordOkCardSaid : Prop := Claim7.holds Tryz.pinned (.plain (OpenSpec.ofChange fnExactCoordOkSpec)) fnExactCoordOkCard

/-- THE SECOND FORM's CARD OF 'laws.FnExactCoordOk'. -/
def fnExactCoordOkUptoCard : Claim7 := { stood := { row := fnExactCoordOkUptoRow, standIns := [], harness := (true, "ac3be0d12b0473b26f51abc03a758a5bfe7bf17c7b653a1aa777fe9b1c6c4129"), looks := false }, kinds := [], alts := [], laidByText := true, laidKinds := [.data, .pinned], laidTests := true, laidLooks := .later }
def FnExactCoordOkUptoCardSaid : Prop := Claim7.holds Tryz.pinned (.plain (OpenSpec.upto fnExactCoordOkSpec)) fnExactCoordOkUptoCard
end Rows
end Go.Proofs.YtgenimghpoemmaaGreatDoor
