/-
  No cell of these rows narrows 'for every input' (looked for: loops, veiled, ifaces, maps, wideKeys, modest, calm, conditions, laid).
  DERIVED. THE GIVEN ROWS OF THIS SEAT. 5 by the template 'for every input the law returns true; each argument reads behind the call as it read before'; 0 by the template 'total and deterministic' (their statements: YtagoajkiccgmjaaTotals.lean).
  GIVEN WITH THE SEED: the statements are not yours to turn. If you find one false, say at which input.
  Laid BY PROGRAM, IN A SANDBOX (cutbox-rows.mjs): the forced cells as the released guide's own fill.sh prints them over the translation ec7efe0649cce75e… (all of the seat's roots in one cut). By AI agents, Wed Nov 11 2026. No macro, syntax, notation, axiom, sorry.
-/
import Derived.Test.YtagoajkiccgmjaaChecked
import GoSem.Claim
import GoSem.ClaimJoined
import GoSem.ClaimMapViews
import Derived.JoinedTies
import Derived.KernelRfl
namespace Go.Proofs.Ytagoajkiccgmjaa
/- THE CELL 'sum', in the pinned program and in every row, IS THE sha256 OF THE DUMP (.gsa) THAT YtagoajkiccgmjaaProg.lean LOADS. Nothing in Lean hashes anything: it is a label: what it is worth is what the hold of that sum in a sandbox is worth. -/
noncomputable def Try.pinned : Pinned := { name := "ytagoajkiccgmjaa", sum := "ec7efe0649cce75ed7bd57c314a49251185906bd8a8d3c7baed27aaa6c1e74c8", checked := Try.checked }
namespace Rows
def none {H : Type} : Left H := { results := [], args := [] }

/-- 'laws.FnExactRunAsk': WHATEVER THE INPUT: true; the input reads as it did. -/
def fnExactRunAskSpec : ChangeSpec := { name := "fnExactRunAsk", fn := fun _ => fun
  | [d1, d2] => { results := [.lit (.bool true)], args := [d1, d2] }
  | _ => none }
def fnExactRunAskRow : OpenClaim := { program := "ytagoajkiccgmjaa", sum := "ec7efe0649cce75ed7bd57c314a49251185906bd8a8d3c7baed27aaa6c1e74c8", func := "loop.example/g00392/laws.FnExactRunAsk", spec := "fnExactRunAsk", inPlace := ["slices.overlaps[loop.example/g00392/impl.Pair]"], unfollowed := true, recurses := true, apart := false }
def FnExactRunAskSaid : Prop := fnExactRunAskRow.holds Try.pinned (OpenSpec.ofChange fnExactRunAskSpec)

/-- ITS FALSE NEIGHBOUR: 'it returns false'. Refute it at one input. -/
def fnExactRunAskWrong : ChangeSpec := { name := "fnExactRunAsk", fn := fun _ => fun
  | [d1, d2] => { results := [.lit (.bool false)], args := [d1, d2] }
  | _ => none }
def FnExactRunAskWrongFalsely : Prop := fnExactRunAskRow.holds Try.pinned (OpenSpec.ofChange fnExactRunAskWrong)

/-- 'laws.FnLocks': WHATEVER THE INPUT: true; the input reads as it did. -/
def fnLocksSpec : ChangeSpec := { name := "fnLocks", fn := fun _ => fun
  | [d] => { results := [.lit (.bool true)], args := [d] }
  | _ => none }
def fnLocksRow : OpenClaim := { program := "ytagoajkiccgmjaa", sum := "ec7efe0649cce75ed7bd57c314a49251185906bd8a8d3c7baed27aaa6c1e74c8", func := "loop.example/g00392/laws.FnLocks", spec := "fnLocks", unfollowed := true, recurses := true, apart := false }
def FnLocksSaid : Prop := fnLocksRow.holds Try.pinned (OpenSpec.ofChange fnLocksSpec)

/-- ITS FALSE NEIGHBOUR: 'it returns false'. Refute it at one input. -/
def fnLocksWrong : ChangeSpec := { name := "fnLocks", fn := fun _ => fun
  | [d] => { results := [.lit (.bool false)], args := [d] }
  | _ => none }
def FnLocksWrongFalsely : Prop := fnLocksRow.holds Try.pinned (OpenSpec.ofChange fnLocksWrong)

/-- 'laws.FnRunAsk': WHATEVER THE INPUT: true; the input reads as it did. -/
def fnRunAskSpec : ChangeSpec := { name := "fnRunAsk", fn := fun _ => fun
  | [d] => { results := [.lit (.bool true)], args := [d] }
  | _ => none }
def fnRunAskRow : OpenClaim := { program := "ytagoajkiccgmjaa", sum := "ec7efe0649cce75ed7bd57c314a49251185906bd8a8d3c7baed27aaa6c1e74c8", func := "loop.example/g00392/laws.FnRunAsk", spec := "fnRunAsk", inPlace := ["slices.overlaps[loop.example/g00392/impl.Pair]"], unfollowed := true, recurses := true, apart := false }
def FnRunAskSaid : Prop := fnRunAskRow.holds Try.pinned (OpenSpec.ofChange fnRunAskSpec)

/-- ITS FALSE NEIGHBOUR: 'it returns false'. Refute it at one input. -/
def fnRunAskWrong : ChangeSpec := { name := "fnRunAsk", fn := fun _ => fun
  | [d] => { results := [.lit (.bool false)], args := [d] }
  | _ => none }
def FnRunAskWrongFalsely : Prop := fnRunAskRow.holds Try.pinned (OpenSpec.ofChange fnRunAskWrong)

/-- 'laws.FnExactRunTx': WHATEVER THE INPUT: true; the input reads as it did. -/
def fnExactRunTxSpec : ChangeSpec := { name := "fnExactRunTx", fn := fun _ => fun
  | [d1, d2, d3] => { results := [.lit (.bool true)], args := [d1, d2, d3] }
  | _ => none }
def fnExactRunTxRow : OpenClaim := { program := "ytagoajkiccgmjaa", sum := "ec7efe0649cce75ed7bd57c314a49251185906bd8a8d3c7baed27aaa6c1e74c8", func := "loop.example/g00392/laws.FnExactRunTx", spec := "fnExactRunTx", inPlace := ["slices.overlaps[loop.example/g00392/impl.Pair]"], unfollowed := true, recurses := true, apart := false }
def FnExactRunTxSaid : Prop := fnExactRunTxRow.holds Try.pinned (OpenSpec.ofChange fnExactRunTxSpec)

/-- ITS FALSE NEIGHBOUR: 'it returns false'. Refute it at one input. -/
def fnExactRunTxWrong : ChangeSpec := { name := "fnExactRunTx", fn := fun _ => fun
  | [d1, d2, d3] => { results := [.lit (.bool false)], args := [d1, d2, d3] }
  | _ => none }
def FnExactRunTxWrongFalsely : Prop := fnExactRunTxRow.holds Try.pinned (OpenSpec.ofChange fnExactRunTxWrong)

/-- 'laws.FnExactSerial': WHATEVER THE INPUT: true; the input reads as it did. -/
def fnExactSerialSpec : ChangeSpec := { name := "fnExactSerial", fn := fun _ => fun
  | [d1, d2] => { results := [.lit (.bool true)], args := [d1, d2] }
  | _ => none }
def fnExactSerialRow : OpenClaim := { program := "ytagoajkiccgmjaa", sum := "ec7efe0649cce75ed7bd57c314a49251185906bd8a8d3c7baed27aaa6c1e74c8", func := "loop.example/g00392/laws.FnExactSerial", spec := "fnExactSerial", inPlace := ["slices.overlaps[loop.example/g00392/impl.Pair]"], unfollowed := true, recurses := true, apart := false }
def FnExactSerialSaid : Prop := fnExactSerialRow.holds Try.pinned (OpenSpec.ofChange fnExactSerialSpec)

/-- ITS FALSE NEIGHBOUR: 'it returns false'. Refute it at one input. -/
def fnExactSerialWrong : ChangeSpec := { name := "fnExactSerial", fn := fun _ => fun
  | [d1, d2] => { results := [.lit (.bool false)], args := [d1, d2] }
  | _ => none }
def FnExactSerialWrongFalsely : Prop := fnExactSerialRow.holds Try.pinned (OpenSpec.ofChange fnExactSerialWrong)

/- THE SECOND FORM. 'bulk': how many values and letters a reading holds, each counted each time it is reached (what is shared counts as often as it is met; a slice's spare places count too). A statement '..UptoSaid' is the law's where the arguments, and the package variables that the reading takes, are together of bulk at most 1048576: NARROWER than '..Said'. Prove '..Said' where nothing that the law and all that it calls make is longer than what came in: it says more and counts as full. Else prove '..UptoSaid'. A law counts once. -/
mutual
def uptoBulk {H : Type} : DataW H → Nat
  | .lit (.string bytes) => bytes.length + 1
  | .lit _ => 1
  | .nil => 1
  | .ptr d => uptoBulk d + 1
  | .slice elems spare => uptoBulkAll elems + uptoBulkAll spare + 1
  | .agg parts => uptoBulkAll parts + 1
  | .iface _ d => uptoBulk d + 1
  | .map entries => uptoBulkEntries entries + 1
  | .held _ => 1
def uptoBulkAll {H : Type} : List (DataW H) → Nat
  | [] => 0
  | d :: r => uptoBulk d + uptoBulkAll r
def uptoBulkEntries {H : Type} : List (Lit × DataW H) → Nat
  | [] => 0
  | x :: r => uptoBulkEntry x + uptoBulkEntries r
def uptoBulkEntry {H : Type} : Lit × DataW H → Nat
  | (.string bytes, d) => bytes.length + uptoBulk d + 1
  | (_, d) => uptoBulk d + 1
 end
def uptoSmall : (H : Type) → List (DataW H) → Bool := fun _ ds => decide (uptoBulkAll ds ≤ 1048576)
def OpenSpec.upto (s : _root_.Go.ChangeSpec) : _root_.Go.OpenSpec := { _root_.Go.OpenSpec.ofChange s with cond := some uptoSmall }

/-- 'laws.FnExactRunAsk', WHERE WHAT IT READS IS OF BULK AT MOST 1048576: true; the input reads as it did. -/
def fnExactRunAskUptoRow : OpenClaim := { program := "ytagoajkiccgmjaa", sum := "ec7efe0649cce75ed7bd57c314a49251185906bd8a8d3c7baed27aaa6c1e74c8", func := "loop.example/g00392/laws.FnExactRunAsk", spec := "fnExactRunAsk", inPlace := ["slices.overlaps[loop.example/g00392/impl.Pair]"], unfollowed := true, recurses := true, apart := false, narrowed := true }
def FnExactRunAskUptoSaid : Prop := fnExactRunAskUptoRow.holds Try.pinned (OpenSpec.upto fnExactRunAskSpec)

/-- 'laws.FnLocks', WHERE WHAT IT READS IS OF BULK AT MOST 1048576: true; the input reads as it did. -/
def fnLocksUptoRow : OpenClaim := { program := "ytagoajkiccgmjaa", sum := "ec7efe0649cce75ed7bd57c314a49251185906bd8a8d3c7baed27aaa6c1e74c8", func := "loop.example/g00392/laws.FnLocks", spec := "fnLocks", unfollowed := true, recurses := true, apart := false, narrowed := true }
def FnLocksUptoSaid : Prop := fnLocksUptoRow.holds Try.pinned (OpenSpec.upto fnLocksSpec)

/-- 'laws.FnRunAsk', WHERE WHAT IT READS IS OF BULK AT MOST 1048576: true; the input reads as it did. -/
def fnRunAskUptoRow : OpenClaim := { program := "ytagoajkiccgmjaa", sum := "ec7efe0649cce75ed7bd57c314a49251185906bd8a8d3c7baed27aaa6c1e74c8", func := "loop.example/g00392/laws.FnRunAsk", spec := "fnRunAsk", inPlace := ["slices.overlaps[loop.example/g00392/impl.Pair]"], unfollowed := true, recurses := true, apart := false, narrowed := true }
def FnRunAskUptoSaid : Prop := fnRunAskUptoRow.holds Try.pinned (OpenSpec.upto fnRunAskSpec)

/-- 'laws.FnExactRunTx', WHERE WHAT IT READS IS OF BULK AT MOST 1048576: true; the input reads as it did. -/
def fnExactRunTxUptoRow : OpenClaim := { program := "ytagoajkiccgmjaa", sum := "ec7efe0649cce75ed7bd57c314a49251185906bd8a8d3c7baed27aaa6c1e74c8", func := "loop.example/g00392/laws.FnExactRunTx", spec := "fnExactRunTx", inPlace := ["slices.overlaps[loop.example/g00392/impl.Pair]"], unfollowed := true, recurses := true, apart := false, narrowed := true }
def FnExactRunTxUptoSaid : Prop := fnExactRunTxUptoRow.holds Try.pinned (OpenSpec.upto fnExactRunTxSpec)

/-- 'laws.FnExactSerial', WHERE WHAT IT READS IS OF BULK AT MOST 1048576: true; the input reads as it did. -/
def fnExactSerialUptoRow : OpenClaim := { program := "ytagoajkiccgmjaa", sum := "ec7efe0649cce75ed7bd57c314a49251185906bd8a8d3c7baed27aaa6c1e74c8", func := "loop.example/g00392/laws.FnExactSerial", spec := "fnExactSerial", inPlace := ["slices.overlaps[loop.example/g00392/impl.Pair]"], unfollowed := true, recurses := true, apart := false, narrowed := true }
def FnExactSerialUptoSaid : Prop := fnExactSerialUptoRow.holds Try.pinned (OpenSpec.upto fnExactSerialSpec)

end Rows
end Go.Proofs.Ytagoajkiccgmjaa
