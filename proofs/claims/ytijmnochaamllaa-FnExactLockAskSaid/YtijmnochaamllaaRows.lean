/-
  No cell of these rows narrows 'for every input' (looked for: loops, veiled, ifaces, maps, wideKeys, modest, calm, conditions, laid).
  DERIVED. THE GIVEN ROWS OF THIS SEAT. 6 by the template 'for every input the law returns true; each argument reads behind the call as it read before'; 0 by the template 'total and deterministic' (their statements: YtijmnochaamllaaTotals.lean).
  GIVEN WITH THE SEED: the statements are not yours to turn. If you find one false, say at which input.
  Laid BY PROGRAM, IN A SANDBOX (cutbox-rows.mjs): the forced cells as the released guide's own fill.sh prints them over the translation bc30b905dfe4a24f… (all of the seat's roots in one cut). By AI agents, Wed Nov 11 2026. No macro, syntax, notation, axiom, sorry.
-/
import Derived.Test.YtijmnochaamllaaChecked
import GoSem.Claim
import GoSem.ClaimJoined
import GoSem.ClaimMapViews
import Derived.JoinedTies
import Derived.KernelRfl
namespace Go.Proofs.Ytijmnochaamllaa
/- THE CELL 'sum', in the pinned program and in every row, IS THE sha256 OF THE DUMP (.gsa) THAT YtijmnochaamllaaProg.lean LOADS. Nothing in Lean hashes anything: it is a label: what it is worth is what the hold of that sum in a sandbox is worth. -/
noncomputable def Try.pinned : Pinned := { name := "ytijmnochaamllaa", sum := "bc30b905dfe4a24f7d191d73d6cd5a3cad4c786532c6dc6dea6052abe372037e", checked := Try.checked }
namespace Rows
def none {H : Type} : Left H := { results := [], args := [] }

/-- 'laws.FnExactDataOk': WHATEVER THE INPUT: true; the input reads as it did. -/
def fnExactDataOkSpec : ChangeSpec := { name := "fnExactDataOk", fn := fun _ => fun
  | [d] => { results := [.lit (.bool true)], args := [d] }
  | _ => none }
def fnExactDataOkRow : OpenClaim := { program := "ytijmnochaamllaa", sum := "bc30b905dfe4a24f7d191d73d6cd5a3cad4c786532c6dc6dea6052abe372037e", func := "loop.example/g00392/laws.FnExactDataOk", spec := "fnExactDataOk", apart := false }
def FnExactDataOkSaid : Prop := fnExactDataOkRow.holds Try.pinned (OpenSpec.ofChange fnExactDataOkSpec)

/-- ITS FALSE NEIGHBOUR: 'it returns false'. Refute it at one input. -/
def fnExactDataOkWrong : ChangeSpec := { name := "fnExactDataOk", fn := fun _ => fun
  | [d] => { results := [.lit (.bool false)], args := [d] }
  | _ => none }
def FnExactDataOkWrongFalsely : Prop := fnExactDataOkRow.holds Try.pinned (OpenSpec.ofChange fnExactDataOkWrong)

/-- 'laws.FnExactAsked': WHATEVER THE INPUT: true; the input reads as it did. -/
def fnExactAskedSpec : ChangeSpec := { name := "fnExactAsked", fn := fun _ => fun
  | [d1, d2] => { results := [.lit (.bool true)], args := [d1, d2] }
  | _ => none }
def fnExactAskedRow : OpenClaim := { program := "ytijmnochaamllaa", sum := "bc30b905dfe4a24f7d191d73d6cd5a3cad4c786532c6dc6dea6052abe372037e", func := "loop.example/g00392/laws.FnExactAsked", spec := "fnExactAsked", apart := false }
def FnExactAskedSaid : Prop := fnExactAskedRow.holds Try.pinned (OpenSpec.ofChange fnExactAskedSpec)

/-- ITS FALSE NEIGHBOUR: 'it returns false'. Refute it at one input. -/
def fnExactAskedWrong : ChangeSpec := { name := "fnExactAsked", fn := fun _ => fun
  | [d1, d2] => { results := [.lit (.bool false)], args := [d1, d2] }
  | _ => none }
def FnExactAskedWrongFalsely : Prop := fnExactAskedRow.holds Try.pinned (OpenSpec.ofChange fnExactAskedWrong)

/-- 'laws.FnExactOutcome': WHATEVER THE INPUT: true; the input reads as it did. -/
def fnExactOutcomeSpec : ChangeSpec := { name := "fnExactOutcome", fn := fun _ => fun
  | [d1, d2] => { results := [.lit (.bool true)], args := [d1, d2] }
  | _ => none }
def fnExactOutcomeRow : OpenClaim := { program := "ytijmnochaamllaa", sum := "bc30b905dfe4a24f7d191d73d6cd5a3cad4c786532c6dc6dea6052abe372037e", func := "loop.example/g00392/laws.FnExactOutcome", spec := "fnExactOutcome", apart := false }
def FnExactOutcomeSaid : Prop := fnExactOutcomeRow.holds Try.pinned (OpenSpec.ofChange fnExactOutcomeSpec)

/-- ITS FALSE NEIGHBOUR: 'it returns false'. Refute it at one input. -/
def fnExactOutcomeWrong : ChangeSpec := { name := "fnExactOutcome", fn := fun _ => fun
  | [d1, d2] => { results := [.lit (.bool false)], args := [d1, d2] }
  | _ => none }
def FnExactOutcomeWrongFalsely : Prop := fnExactOutcomeRow.holds Try.pinned (OpenSpec.ofChange fnExactOutcomeWrong)

/-- 'laws.FnExactReplyText': WHATEVER THE INPUT: true; the input reads as it did. -/
def fnExactReplyTextSpec : ChangeSpec := { name := "fnExactReplyText", fn := fun _ => fun
  | [d] => { results := [.lit (.bool true)], args := [d] }
  | _ => none }
def fnExactReplyTextRow : OpenClaim := { program := "ytijmnochaamllaa", sum := "bc30b905dfe4a24f7d191d73d6cd5a3cad4c786532c6dc6dea6052abe372037e", func := "loop.example/g00392/laws.FnExactReplyText", spec := "fnExactReplyText", recurses := true, apart := false }
def FnExactReplyTextSaid : Prop := fnExactReplyTextRow.holds Try.pinned (OpenSpec.ofChange fnExactReplyTextSpec)

/-- ITS FALSE NEIGHBOUR: 'it returns false'. Refute it at one input. -/
def fnExactReplyTextWrong : ChangeSpec := { name := "fnExactReplyText", fn := fun _ => fun
  | [d] => { results := [.lit (.bool false)], args := [d] }
  | _ => none }
def FnExactReplyTextWrongFalsely : Prop := fnExactReplyTextRow.holds Try.pinned (OpenSpec.ofChange fnExactReplyTextWrong)

/-- 'laws.FnExactLockAsk': WHATEVER THE INPUT: true; the input reads as it did. -/
def fnExactLockAskSpec : ChangeSpec := { name := "fnExactLockAsk", fn := fun _ => fun
  | [d1, d2] => { results := [.lit (.bool true)], args := [d1, d2] }
  | _ => none }
def fnExactLockAskRow : OpenClaim := { program := "ytijmnochaamllaa", sum := "bc30b905dfe4a24f7d191d73d6cd5a3cad4c786532c6dc6dea6052abe372037e", func := "loop.example/g00392/laws.FnExactLockAsk", spec := "fnExactLockAsk", unfollowed := true, recurses := true, apart := false }
def FnExactLockAskSaid : Prop := fnExactLockAskRow.holds Try.pinned (OpenSpec.ofChange fnExactLockAskSpec)

/-- ITS FALSE NEIGHBOUR: 'it returns false'. Refute it at one input. -/
def fnExactLockAskWrong : ChangeSpec := { name := "fnExactLockAsk", fn := fun _ => fun
  | [d1, d2] => { results := [.lit (.bool false)], args := [d1, d2] }
  | _ => none }
def FnExactLockAskWrongFalsely : Prop := fnExactLockAskRow.holds Try.pinned (OpenSpec.ofChange fnExactLockAskWrong)

/-- 'laws.FnExactRunAsk': WHATEVER THE INPUT: true; the input reads as it did. -/
def fnExactRunAskSpec : ChangeSpec := { name := "fnExactRunAsk", fn := fun _ => fun
  | [d1, d2] => { results := [.lit (.bool true)], args := [d1, d2] }
  | _ => none }
def fnExactRunAskRow : OpenClaim := { program := "ytijmnochaamllaa", sum := "bc30b905dfe4a24f7d191d73d6cd5a3cad4c786532c6dc6dea6052abe372037e", func := "loop.example/g00392/laws.FnExactRunAsk", spec := "fnExactRunAsk", inPlace := ["slices.overlaps[loop.example/g00392/impl.Pair]"], unfollowed := true, recurses := true, apart := false }
def FnExactRunAskSaid : Prop := fnExactRunAskRow.holds Try.pinned (OpenSpec.ofChange fnExactRunAskSpec)

/-- ITS FALSE NEIGHBOUR: 'it returns false'. Refute it at one input. -/
def fnExactRunAskWrong : ChangeSpec := { name := "fnExactRunAsk", fn := fun _ => fun
  | [d1, d2] => { results := [.lit (.bool false)], args := [d1, d2] }
  | _ => none }
def FnExactRunAskWrongFalsely : Prop := fnExactRunAskRow.holds Try.pinned (OpenSpec.ofChange fnExactRunAskWrong)

/- THE SECOND FORM. 'bulk': how many values and letters a reading holds, each counted each time it is reached (what is shared counts as often as it is met; a slice's spare places count too). A statement '..UptoSaid' is the law's where the arguments, and the package variables that the reading takes, are together of bulk at most 1048576: NARROWER than '..Said'. Prove '..Said' where nothing that the law and all that it calls make is longer than what came in: it says more and counts as full. Else prove '..UptoSaid'. A law counts once. -/
mutual
def uptoBulk {H : Type} : DataW H → Nat
  | .lit (.string bytes) => bytes.length + 1
  | .lit _ => 1
  | .nil => 1
  | .ptr d => uptoBulk d + 1
  | .slice elems spare => uptoBulkAll elems + uptoBulkAll spare + 1
  | .agg parts => uptoBulkAll parts + 1
  | .iface _ d => uptoBulk d + 1
  | .map entries => uptoBulkEntries entries + 1
  | .held _ => 1
def uptoBulkAll {H : Type} : List (DataW H) → Nat
  | [] => 0
  | d :: r => uptoBulk d + uptoBulkAll r
def uptoBulkEntries {H : Type} : List (Lit × DataW H) → Nat
  | [] => 0
  | x :: r => uptoBulkEntry x + uptoBulkEntries r
def uptoBulkEntry {H : Type} : Lit × DataW H → Nat
  | (.string bytes, d) => bytes.length + uptoBulk d + 1
  | (_, d) => uptoBulk d + 1
 end
def uptoSmall : (H : Type) → List (DataW H) → Bool := fun _ ds => decide (uptoBulkAll ds ≤ 1048576)
def OpenSpec.upto (s : _root_.Go.ChangeSpec) : _root_.Go.OpenSpec := { _root_.Go.OpenSpec.ofChange s with cond := some uptoSmall }

/-- 'laws.FnExactDataOk', WHERE WHAT IT READS IS OF BULK AT MOST 1048576: true; the input reads as it did. -/
def fnExactDataOkUptoRow : OpenClaim := { program := "ytijmnochaamllaa", sum := "bc30b905dfe4a24f7d191d73d6cd5a3cad4c786532c6dc6dea6052abe372037e", func := "loop.example/g00392/laws.FnExactDataOk", spec := "fnExactDataOk", apart := false, narrowed := true }
def FnExactDataOkUptoSaid : Prop := fnExactDataOkUptoRow.holds Try.pinned (OpenSpec.upto fnExactDataOkSpec)

/-- 'laws.FnExactAsked', WHERE WHAT IT READS IS OF BULK AT MOST 1048576: true; the input reads as it did. -/
def fnExactAskedUptoRow : OpenClaim := { program := "ytijmnochaamllaa", sum := "bc30b905dfe4a24f7d191d73d6cd5a3cad4c786532c6dc6dea6052abe372037e", func := "loop.example/g00392/laws.FnExactAsked", spec := "fnExactAsked", apart := false, narrowed := true }
def FnExactAskedUptoSaid : Prop := fnExactAskedUptoRow.holds Try.pinned (OpenSpec.upto fnExactAskedSpec)

/-- 'laws.FnExactOutcome', WHERE WHAT IT READS IS OF BULK AT MOST 1048576: true; the input reads as it did. -/
def fnExactOutcomeUptoRow : OpenClaim := { program := "ytijmnochaamllaa", sum := "bc30b905dfe4a24f7d191d73d6cd5a3cad4c786532c6dc6dea6052abe372037e", func := "loop.example/g00392/laws.FnExactOutcome", spec := "fnExactOutcome", apart := false, narrowed := true }
def FnExactOutcomeUptoSaid : Prop := fnExactOutcomeUptoRow.holds Try.pinned (OpenSpec.upto fnExactOutcomeSpec)

/-- 'laws.FnExactReplyText', WHERE WHAT IT READS IS OF BULK AT MOST 1048576: true; the input reads as it did. -/
def fnExactReplyTextUptoRow : OpenClaim := { program := "ytijmnochaamllaa", sum := "bc30b905dfe4a24f7d191d73d6cd5a3cad4c786532c6dc6dea6052abe372037e", func := "loop.example/g00392/laws.FnExactReplyText", spec := "fnExactReplyText", recurses := true, apart := false, narrowed := true }
def FnExactReplyTextUptoSaid : Prop := fnExactReplyTextUptoRow.holds Try.pinned (OpenSpec.upto fnExactReplyTextSpec)

/-- 'laws.FnExactLockAsk', WHERE WHAT IT READS IS OF BULK AT MOST 1048576: true; the input reads as it did. -/
def fnExactLockAskUptoRow : OpenClaim := { program := "ytijmnochaamllaa", sum := "bc30b905dfe4a24f7d191d73d6cd5a3cad4c786532c6dc6dea6052abe372037e", func := "loop.example/g00392/laws.FnExactLockAsk", spec := "fnExactLockAsk", unfollowed := true, recurses := true, apart := false, narrowed := true }
def FnExactLockAskUptoSaid : Prop := fnExactLockAskUptoRow.holds Try.pinned (OpenSpec.upto fnExactLockAskSpec)

/-- 'laws.FnExactRunAsk', WHERE WHAT IT READS IS OF BULK AT MOST 1048576: true; the input reads as it did. -/
def fnExactRunAskUptoRow : OpenClaim := { program := "ytijmnochaamllaa", sum := "bc30b905dfe4a24f7d191d73d6cd5a3cad4c786532c6dc6dea6052abe372037e", func := "loop.example/g00392/laws.FnExactRunAsk", spec := "fnExactRunAsk", inPlace := ["slices.overlaps[loop.example/g00392/impl.Pair]"], unfollowed := true, recurses := true, apart := false, narrowed := true }
def FnExactRunAskUptoSaid : Prop := fnExactRunAskUptoRow.holds Try.pinned (OpenSpec.upto fnExactRunAskSpec)

end Rows
end Go.Proofs.Ytijmnochaamllaa
