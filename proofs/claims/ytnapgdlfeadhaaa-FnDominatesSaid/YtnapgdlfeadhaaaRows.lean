/-
  No cell of these rows narrows 'for every input' (looked for: loops, veiled, ifaces, maps, wideKeys, modest, calm, conditions, laid).
  DERIVED. THE GIVEN ROWS OF THIS SEAT. 9 by the template 'for every input the law returns true; each argument reads behind the call as it read before'; 0 by the template 'total and deterministic' (their statements: YtnapgdlfeadhaaaTotals.lean).
  GIVEN WITH THE SEED: the statements are not yours to turn. If you find one false, say at which input.
  Laid BY PROGRAM, IN A SANDBOX (cutbox-rows.mjs): the forced cells as the released guide's own fill.sh prints them over the translation 42fd0e57fe888401… (all of the seat's roots in one cut). By AI agents, Wed Nov 11 2026. No macro, syntax, notation, axiom, sorry.
-/
import Derived.Test.YtnapgdlfeadhaaaChecked
import GoSem.Claim
import GoSem.ClaimJoined
import GoSem.ClaimMapViews
import Derived.JoinedTies
import Derived.KernelRfl
namespace Go.Proofs.Ytnapgdlfeadhaaa
/- THE CELL 'sum', in the pinned program and in every row, IS THE sha256 OF THE DUMP (.gsa) THAT YtnapgdlfeadhaaaProg.lean LOADS. Nothing in Lean hashes anything: it is a label: what it is worth is what the hold of that sum in a sandbox is worth. -/
noncomputable def Try.pinned : Pinned := { name := "ytnapgdlfeadhaaa", sum := "42fd0e57fe888401e49d98f4d68edfcfbf683878ca0922c949f8878cb0aa5e1d", checked := Try.checked }
namespace Rows
def none {H : Type} : Left H := { results := [], args := [] }

/-- 'laws.FnCritical': WHATEVER THE INPUT: true; the input reads as it did. -/
def fnCriticalSpec : ChangeSpec := { name := "fnCritical", fn := fun _ => fun
  | [d] => { results := [.lit (.bool true)], args := [d] }
  | _ => none }
def fnCriticalRow : OpenClaim := { program := "ytnapgdlfeadhaaa", sum := "42fd0e57fe888401e49d98f4d68edfcfbf683878ca0922c949f8878cb0aa5e1d", func := "loop.example/g00192/laws.FnCritical", spec := "fnCritical", unfollowed := true, recurses := true, apart := false }
def FnCriticalSaid : Prop := fnCriticalRow.holds Try.pinned (OpenSpec.ofChange fnCriticalSpec)

/-- ITS FALSE NEIGHBOUR: 'it returns false'. Refute it at one input. -/
def fnCriticalWrong : ChangeSpec := { name := "fnCritical", fn := fun _ => fun
  | [d] => { results := [.lit (.bool false)], args := [d] }
  | _ => none }
def FnCriticalWrongFalsely : Prop := fnCriticalRow.holds Try.pinned (OpenSpec.ofChange fnCriticalWrong)

/-- 'laws.FnGraph': WHATEVER THE INPUT: true; the input reads as it did. -/
def fnGraphSpec : ChangeSpec := { name := "fnGraph", fn := fun _ => fun
  | [d] => { results := [.lit (.bool true)], args := [d] }
  | _ => none }
def fnGraphRow : OpenClaim := { program := "ytnapgdlfeadhaaa", sum := "42fd0e57fe888401e49d98f4d68edfcfbf683878ca0922c949f8878cb0aa5e1d", func := "loop.example/g00192/laws.FnGraph", spec := "fnGraph", unfollowed := true, recurses := true, apart := false }
def FnGraphSaid : Prop := fnGraphRow.holds Try.pinned (OpenSpec.ofChange fnGraphSpec)

/-- ITS FALSE NEIGHBOUR: 'it returns false'. Refute it at one input. -/
def fnGraphWrong : ChangeSpec := { name := "fnGraph", fn := fun _ => fun
  | [d] => { results := [.lit (.bool false)], args := [d] }
  | _ => none }
def FnGraphWrongFalsely : Prop := fnGraphRow.holds Try.pinned (OpenSpec.ofChange fnGraphWrong)

/-- 'laws.FnOrder': WHATEVER THE INPUT: true; the input reads as it did. -/
def fnOrderSpec : ChangeSpec := { name := "fnOrder", fn := fun _ => fun
  | [d] => { results := [.lit (.bool true)], args := [d] }
  | _ => none }
def fnOrderRow : OpenClaim := { program := "ytnapgdlfeadhaaa", sum := "42fd0e57fe888401e49d98f4d68edfcfbf683878ca0922c949f8878cb0aa5e1d", func := "loop.example/g00192/laws.FnOrder", spec := "fnOrder", unfollowed := true, recurses := true, apart := false }
def FnOrderSaid : Prop := fnOrderRow.holds Try.pinned (OpenSpec.ofChange fnOrderSpec)

/-- ITS FALSE NEIGHBOUR: 'it returns false'. Refute it at one input. -/
def fnOrderWrong : ChangeSpec := { name := "fnOrder", fn := fun _ => fun
  | [d] => { results := [.lit (.bool false)], args := [d] }
  | _ => none }
def FnOrderWrongFalsely : Prop := fnOrderRow.holds Try.pinned (OpenSpec.ofChange fnOrderWrong)

/-- 'laws.FnDominates': WHATEVER THE INPUT: true; the input reads as it did. -/
def fnDominatesSpec : ChangeSpec := { name := "fnDominates", fn := fun _ => fun
  | [d] => { results := [.lit (.bool true)], args := [d] }
  | _ => none }
def fnDominatesRow : OpenClaim := { program := "ytnapgdlfeadhaaa", sum := "42fd0e57fe888401e49d98f4d68edfcfbf683878ca0922c949f8878cb0aa5e1d", func := "loop.example/g00192/laws.FnDominates", spec := "fnDominates", unfollowed := true, recurses := true, apart := false }
def FnDominatesSaid : Prop := fnDominatesRow.holds Try.pinned (OpenSpec.ofChange fnDominatesSpec)

/-- ITS FALSE NEIGHBOUR: 'it returns false'. Refute it at one input. -/
def fnDominatesWrong : ChangeSpec := { name := "fnDominates", fn := fun _ => fun
  | [d] => { results := [.lit (.bool false)], args := [d] }
  | _ => none }
def FnDominatesWrongFalsely : Prop := fnDominatesRow.holds Try.pinned (OpenSpec.ofChange fnDominatesWrong)

/-- 'laws.FnFuel': WHATEVER THE INPUT: true; the input reads as it did. -/
def fnFuelSpec : ChangeSpec := { name := "fnFuel", fn := fun _ => fun
  | [d] => { results := [.lit (.bool true)], args := [d] }
  | _ => none }
def fnFuelRow : OpenClaim := { program := "ytnapgdlfeadhaaa", sum := "42fd0e57fe888401e49d98f4d68edfcfbf683878ca0922c949f8878cb0aa5e1d", func := "loop.example/g00192/laws.FnFuel", spec := "fnFuel", unfollowed := true, recurses := true, apart := false }
def FnFuelSaid : Prop := fnFuelRow.holds Try.pinned (OpenSpec.ofChange fnFuelSpec)

/-- ITS FALSE NEIGHBOUR: 'it returns false'. Refute it at one input. -/
def fnFuelWrong : ChangeSpec := { name := "fnFuel", fn := fun _ => fun
  | [d] => { results := [.lit (.bool false)], args := [d] }
  | _ => none }
def FnFuelWrongFalsely : Prop := fnFuelRow.holds Try.pinned (OpenSpec.ofChange fnFuelWrong)

/-- 'laws.FnReads': WHATEVER THE INPUT: true; the input reads as it did. -/
def fnReadsSpec : ChangeSpec := { name := "fnReads", fn := fun _ => fun
  | [d] => { results := [.lit (.bool true)], args := [d] }
  | _ => none }
def fnReadsRow : OpenClaim := { program := "ytnapgdlfeadhaaa", sum := "42fd0e57fe888401e49d98f4d68edfcfbf683878ca0922c949f8878cb0aa5e1d", func := "loop.example/g00192/laws.FnReads", spec := "fnReads", unfollowed := true, recurses := true, apart := false }
def FnReadsSaid : Prop := fnReadsRow.holds Try.pinned (OpenSpec.ofChange fnReadsSpec)

/-- ITS FALSE NEIGHBOUR: 'it returns false'. Refute it at one input. -/
def fnReadsWrong : ChangeSpec := { name := "fnReads", fn := fun _ => fun
  | [d] => { results := [.lit (.bool false)], args := [d] }
  | _ => none }
def FnReadsWrongFalsely : Prop := fnReadsRow.holds Try.pinned (OpenSpec.ofChange fnReadsWrong)

/-- 'laws.FnPath': WHATEVER THE INPUT: true; the input reads as it did. -/
def fnPathSpec : ChangeSpec := { name := "fnPath", fn := fun _ => fun
  | [d] => { results := [.lit (.bool true)], args := [d] }
  | _ => none }
def fnPathRow : OpenClaim := { program := "ytnapgdlfeadhaaa", sum := "42fd0e57fe888401e49d98f4d68edfcfbf683878ca0922c949f8878cb0aa5e1d", func := "loop.example/g00192/laws.FnPath", spec := "fnPath", unfollowed := true, recurses := true, apart := false }
def FnPathSaid : Prop := fnPathRow.holds Try.pinned (OpenSpec.ofChange fnPathSpec)

/-- ITS FALSE NEIGHBOUR: 'it returns false'. Refute it at one input. -/
def fnPathWrong : ChangeSpec := { name := "fnPath", fn := fun _ => fun
  | [d] => { results := [.lit (.bool false)], args := [d] }
  | _ => none }
def FnPathWrongFalsely : Prop := fnPathRow.holds Try.pinned (OpenSpec.ofChange fnPathWrong)

/-- 'laws.FnExactRun': WHATEVER THE INPUT: true; the input reads as it did. -/
def fnExactRunSpec : ChangeSpec := { name := "fnExactRun", fn := fun _ => fun
  | [d1, d2, d3] => { results := [.lit (.bool true)], args := [d1, d2, d3] }
  | _ => none }
def fnExactRunRow : OpenClaim := { program := "ytnapgdlfeadhaaa", sum := "42fd0e57fe888401e49d98f4d68edfcfbf683878ca0922c949f8878cb0aa5e1d", func := "loop.example/g00192/laws.FnExactRun", spec := "fnExactRun", unfollowed := true, recurses := true, apart := false }
def FnExactRunSaid : Prop := fnExactRunRow.holds Try.pinned (OpenSpec.ofChange fnExactRunSpec)

/-- ITS FALSE NEIGHBOUR: 'it returns false'. Refute it at one input. -/
def fnExactRunWrong : ChangeSpec := { name := "fnExactRun", fn := fun _ => fun
  | [d1, d2, d3] => { results := [.lit (.bool false)], args := [d1, d2, d3] }
  | _ => none }
def FnExactRunWrongFalsely : Prop := fnExactRunRow.holds Try.pinned (OpenSpec.ofChange fnExactRunWrong)

/-- 'laws.FnExactPath': WHATEVER THE INPUT: true; the input reads as it did. -/
def fnExactPathSpec : ChangeSpec := { name := "fnExactPath", fn := fun _ => fun
  | [d1, d2, d3] => { results := [.lit (.bool true)], args := [d1, d2, d3] }
  | _ => none }
def fnExactPathRow : OpenClaim := { program := "ytnapgdlfeadhaaa", sum := "42fd0e57fe888401e49d98f4d68edfcfbf683878ca0922c949f8878cb0aa5e1d", func := "loop.example/g00192/laws.FnExactPath", spec := "fnExactPath", unfollowed := true, recurses := true, apart := false }
def FnExactPathSaid : Prop := fnExactPathRow.holds Try.pinned (OpenSpec.ofChange fnExactPathSpec)

/-- ITS FALSE NEIGHBOUR: 'it returns false'. Refute it at one input. -/
def fnExactPathWrong : ChangeSpec := { name := "fnExactPath", fn := fun _ => fun
  | [d1, d2, d3] => { results := [.lit (.bool false)], args := [d1, d2, d3] }
  | _ => none }
def FnExactPathWrongFalsely : Prop := fnExactPathRow.holds Try.pinned (OpenSpec.ofChange fnExactPathWrong)

/- THE SECOND FORM. 'bulk': how many values and letters a reading holds, each counted each time it is reached (what is shared counts as often as it is met; a slice's spare places count too). A statement '..UptoSaid' is the law's where the arguments, and the package variables that the reading takes, are together of bulk at most 1048576: NARROWER than '..Said'. Prove '..Said' where nothing that the law and all that it calls make is longer than what came in: it says more and counts as full. Else prove '..UptoSaid'. A law counts once. -/
mutual
def uptoBulk {H : Type} : DataW H → Nat
  | .lit (.string bytes) => bytes.length + 1
  | .lit _ => 1
  | .nil => 1
  | .ptr d => uptoBulk d + 1
  | .slice elems spare => uptoBulkAll elems + uptoBulkAll spare + 1
  | .agg parts => uptoBulkAll parts + 1
  | .iface _ d => uptoBulk d + 1
  | .map entries => uptoBulkEntries entries + 1
  | .held _ => 1
def uptoBulkAll {H : Type} : List (DataW H) → Nat
  | [] => 0
  | d :: r => uptoBulk d + uptoBulkAll r
def uptoBulkEntries {H : Type} : List (Lit × DataW H) → Nat
  | [] => 0
  | x :: r => uptoBulkEntry x + uptoBulkEntries r
def uptoBulkEntry {H : Type} : Lit × DataW H → Nat
  | (.string bytes, d) => bytes.length + uptoBulk d + 1
  | (_, d) => uptoBulk d + 1
 end
def uptoSmall : (H : Type) → List (DataW H) → Bool := fun _ ds => decide (uptoBulkAll ds ≤ 1048576)
def OpenSpec.upto (s : _root_.Go.ChangeSpec) : _root_.Go.OpenSpec := { _root_.Go.OpenSpec.ofChange s with cond := some uptoSmall }

/-- 'laws.FnCritical', WHERE WHAT IT READS IS OF BULK AT MOST 1048576: true; the input reads as it did. -/
def fnCriticalUptoRow : OpenClaim := { program := "ytnapgdlfeadhaaa", sum := "42fd0e57fe888401e49d98f4d68edfcfbf683878ca0922c949f8878cb0aa5e1d", func := "loop.example/g00192/laws.FnCritical", spec := "fnCritical", unfollowed := true, recurses := true, apart := false, narrowed := true }
def FnCriticalUptoSaid : Prop := fnCriticalUptoRow.holds Try.pinned (OpenSpec.upto fnCriticalSpec)

/-- 'laws.FnGraph', WHERE WHAT IT READS IS OF BULK AT MOST 1048576: true; the input reads as it did. -/
def fnGraphUptoRow : OpenClaim := { program := "ytnapgdlfeadhaaa", sum := "42fd0e57fe888401e49d98f4d68edfcfbf683878ca0922c949f8878cb0aa5e1d", func := "loop.example/g00192/laws.FnGraph", spec := "fnGraph", unfollowed := true, recurses := true, apart := false, narrowed := true }
def FnGraphUptoSaid : Prop := fnGraphUptoRow.holds Try.pinned (OpenSpec.upto fnGraphSpec)

/-- 'laws.FnOrder', WHERE WHAT IT READS IS OF BULK AT MOST 1048576: true; the input reads as it did. -/
def fnOrderUptoRow : OpenClaim := { program := "ytnapgdlfeadhaaa", sum := "42fd0e57fe888401e49d98f4d68edfcfbf683878ca0922c949f8878cb0aa5e1d", func := "loop.example/g00192/laws.FnOrder", spec := "fnOrder", unfollowed := true, recurses := true, apart := false, narrowed := true }
def FnOrderUptoSaid : Prop := fnOrderUptoRow.holds Try.pinned (OpenSpec.upto fnOrderSpec)

/-- 'laws.FnDominates', WHERE WHAT IT READS IS OF BULK AT MOST 1048576: true; the input reads as it did. -/
def fnDominatesUptoRow : OpenClaim := { program := "ytnapgdlfeadhaaa", sum := "42fd0e57fe888401e49d98f4d68edfcfbf683878ca0922c949f8878cb0aa5e1d", func := "loop.example/g00192/laws.FnDominates", spec := "fnDominates", unfollowed := true, recurses := true, apart := false, narrowed := true }
def FnDominatesUptoSaid : Prop := fnDominatesUptoRow.holds Try.pinned (OpenSpec.upto fnDominatesSpec)

/-- 'laws.FnFuel', WHERE WHAT IT READS IS OF BULK AT MOST 1048576: true; the input reads as it did. -/
def fnFuelUptoRow : OpenClaim := { program := "ytnapgdlfeadhaaa", sum := "42fd0e57fe888401e49d98f4d68edfcfbf683878ca0922c949f8878cb0aa5e1d", func := "loop.example/g00192/laws.FnFuel", spec := "fnFuel", unfollowed := true, recurses := true, apart := false, narrowed := true }
def FnFuelUptoSaid : Prop := fnFuelUptoRow.holds Try.pinned (OpenSpec.upto fnFuelSpec)

/-- 'laws.FnReads', WHERE WHAT IT READS IS OF BULK AT MOST 1048576: true; the input reads as it did. -/
def fnReadsUptoRow : OpenClaim := { program := "ytnapgdlfeadhaaa", sum := "42fd0e57fe888401e49d98f4d68edfcfbf683878ca0922c949f8878cb0aa5e1d", func := "loop.example/g00192/laws.FnReads", spec := "fnReads", unfollowed := true, recurses := true, apart := false, narrowed := true }
def FnReadsUptoSaid : Prop := fnReadsUptoRow.holds Try.pinned (OpenSpec.upto fnReadsSpec)

/-- 'laws.FnPath', WHERE WHAT IT READS IS OF BULK AT MOST 1048576: true; the input reads as it did. -/
def fnPathUptoRow : OpenClaim := { program := "ytnapgdlfeadhaaa", sum := "42fd0e57fe888401e49d98f4d68edfcfbf683878ca0922c949f8878cb0aa5e1d", func := "loop.example/g00192/laws.FnPath", spec := "fnPath", unfollowed := true, recurses := true, apart := false, narrowed := true }
def FnPathUptoSaid : Prop := fnPathUptoRow.holds Try.pinned (OpenSpec.upto fnPathSpec)

/-- 'laws.FnExactRun', WHERE WHAT IT READS IS OF BULK AT MOST 1048576: true; the input reads as it did. -/
def fnExactRunUptoRow : OpenClaim := { program := "ytnapgdlfeadhaaa", sum := "42fd0e57fe888401e49d98f4d68edfcfbf683878ca0922c949f8878cb0aa5e1d", func := "loop.example/g00192/laws.FnExactRun", spec := "fnExactRun", unfollowed := true, recurses := true, apart := false, narrowed := true }
def FnExactRunUptoSaid : Prop := fnExactRunUptoRow.holds Try.pinned (OpenSpec.upto fnExactRunSpec)

/-- 'laws.FnExactPath', WHERE WHAT IT READS IS OF BULK AT MOST 1048576: true; the input reads as it did. -/
def fnExactPathUptoRow : OpenClaim := { program := "ytnapgdlfeadhaaa", sum := "42fd0e57fe888401e49d98f4d68edfcfbf683878ca0922c949f8878cb0aa5e1d", func := "loop.example/g00192/laws.FnExactPath", spec := "fnExactPath", unfollowed := true, recurses := true, apart := false, narrowed := true }
def FnExactPathUptoSaid : Prop := fnExactPathUptoRow.holds Try.pinned (OpenSpec.upto fnExactPathSpec)

end Rows
end Go.Proofs.Ytnapgdlfeadhaaa
