/-
  No cell of these rows narrows 'for every input' (looked for: loops, veiled, ifaces, maps, wideKeys, modest, calm, conditions, laid).
  DERIVED. THE GIVEN ROWS OF THIS SEAT. 14 by the template 'for every input the law returns true; each argument reads behind the call as it read before'; 0 by the template 'total and deterministic' (their statements: YtgdfgnppeekfjaaGreatTotals.lean).
  GIVEN WITH THE SEED: the statements are not yours to turn. If you find one false, say at which input.
  Laid BY PROGRAM, IN A SANDBOX (cutbox-rows.mjs): the forced cells as the released guide's own fill.sh prints them over the translation 1a80b9205a6bef45… (all of the seat's roots in one cut). By AI agents, Wed Nov 11 2026. No macro, syntax, notation, axiom, sorry.
-/
import Derived.Test.YtgdfgnppeekfjaaGreatChecked
import GoSem.Claim
import GoSem.ClaimJoined
import GoSem.ClaimMapViews
import Derived.JoinedTies
import Derived.KernelRfl
namespace Go.Proofs.YtgdfgnppeekfjaaGreat
/- THE CELL 'sum', in the pinned program and in every row, IS THE sha256 OF THE DUMP (.gsa) THAT YtgdfgnppeekfjaaGreatProg.lean LOADS. Nothing in Lean hashes anything: it is a label: what it is worth is what the hold of that sum in a sandbox is worth. -/
noncomputable def Tryz.pinned : Pinned := { name := "ytgdfgnppeekfjaagreat", sum := "1a80b9205a6bef4557783065429a30103ee49ae38a903804c9529cbb7cfab78a", checked := Tryz.checked }
namespace Rows
def none {H : Type} : Left H := { results := [], args := [] }

/-- 'laws.FnShape': WHATEVER THE INPUT: true; the input reads as it did. -/
def fnShapeSpec : ChangeSpec := { name := "fnShape", fn := fun _ => fun
  | [d] => { results := [.lit (.bool true)], args := [d] }
  | _ => none }
def fnShapeRow : OpenClaim := { program := "ytgdfgnppeekfjaagreat", sum := "1a80b9205a6bef4557783065429a30103ee49ae38a903804c9529cbb7cfab78a", func := "loop.example/g00192/laws.FnShape", spec := "fnShape", unfollowed := true, recurses := true, apart := false }
def FnShapeSaid : Prop := fnShapeRow.holds Tryz.pinned (OpenSpec.ofChange fnShapeSpec)

/-- ITS FALSE NEIGHBOUR: 'it returns false'. Refute it at one input. -/
def fnShapeWrong : ChangeSpec := { name := "fnShape", fn := fun _ => fun
  | [d] => { results := [.lit (.bool false)], args := [d] }
  | _ => none }
def FnShapeWrongFalsely : Prop := fnShapeRow.holds Tryz.pinned (OpenSpec.ofChange fnShapeWrong)

/-- 'laws.FnChecked': WHATEVER THE INPUT: true; the input reads as it did. -/
def fnCheckedSpec : ChangeSpec := { name := "fnChecked", fn := fun _ => fun
  | [d] => { results := [.lit (.bool true)], args := [d] }
  | _ => none }
def fnCheckedRow : OpenClaim := { program := "ytgdfgnppeekfjaagreat", sum := "1a80b9205a6bef4557783065429a30103ee49ae38a903804c9529cbb7cfab78a", func := "loop.example/g00192/laws.FnChecked", spec := "fnChecked", unfollowed := true, recurses := true, apart := false }
def FnCheckedSaid : Prop := fnCheckedRow.holds Tryz.pinned (OpenSpec.ofChange fnCheckedSpec)

/-- ITS FALSE NEIGHBOUR: 'it returns false'. Refute it at one input. -/
def fnCheckedWrong : ChangeSpec := { name := "fnChecked", fn := fun _ => fun
  | [d] => { results := [.lit (.bool false)], args := [d] }
  | _ => none }
def FnCheckedWrongFalsely : Prop := fnCheckedRow.holds Tryz.pinned (OpenSpec.ofChange fnCheckedWrong)

/-- 'laws.FnExactCheck': WHATEVER THE INPUT: true; the input reads as it did. -/
def fnExactCheckSpec : ChangeSpec := { name := "fnExactCheck", fn := fun _ => fun
  | [d] => { results := [.lit (.bool true)], args := [d] }
  | _ => none }
def fnExactCheckRow : OpenClaim := { program := "ytgdfgnppeekfjaagreat", sum := "1a80b9205a6bef4557783065429a30103ee49ae38a903804c9529cbb7cfab78a", func := "loop.example/g00192/laws.FnExactCheck", spec := "fnExactCheck", unfollowed := true, recurses := true, apart := false }
def FnExactCheckSaid : Prop := fnExactCheckRow.holds Tryz.pinned (OpenSpec.ofChange fnExactCheckSpec)

/-- ITS FALSE NEIGHBOUR: 'it returns false'. Refute it at one input. -/
def fnExactCheckWrong : ChangeSpec := { name := "fnExactCheck", fn := fun _ => fun
  | [d] => { results := [.lit (.bool false)], args := [d] }
  | _ => none }
def FnExactCheckWrongFalsely : Prop := fnExactCheckRow.holds Tryz.pinned (OpenSpec.ofChange fnExactCheckWrong)

/-- 'laws.FnExactUsed': WHATEVER THE INPUT: true; the input reads as it did. -/
def fnExactUsedSpec : ChangeSpec := { name := "fnExactUsed", fn := fun _ => fun
  | [d] => { results := [.lit (.bool true)], args := [d] }
  | _ => none }
def fnExactUsedRow : OpenClaim := { program := "ytgdfgnppeekfjaagreat", sum := "1a80b9205a6bef4557783065429a30103ee49ae38a903804c9529cbb7cfab78a", func := "loop.example/g00192/laws.FnExactUsed", spec := "fnExactUsed", unfollowed := true, recurses := true, apart := false }
def FnExactUsedSaid : Prop := fnExactUsedRow.holds Tryz.pinned (OpenSpec.ofChange fnExactUsedSpec)

/-- ITS FALSE NEIGHBOUR: 'it returns false'. Refute it at one input. -/
def fnExactUsedWrong : ChangeSpec := { name := "fnExactUsed", fn := fun _ => fun
  | [d] => { results := [.lit (.bool false)], args := [d] }
  | _ => none }
def FnExactUsedWrongFalsely : Prop := fnExactUsedRow.holds Tryz.pinned (OpenSpec.ofChange fnExactUsedWrong)

/-- 'laws.FnUsed': WHATEVER THE INPUT: true; the input reads as it did. -/
def fnUsedSpec : ChangeSpec := { name := "fnUsed", fn := fun _ => fun
  | [d] => { results := [.lit (.bool true)], args := [d] }
  | _ => none }
def fnUsedRow : OpenClaim := { program := "ytgdfgnppeekfjaagreat", sum := "1a80b9205a6bef4557783065429a30103ee49ae38a903804c9529cbb7cfab78a", func := "loop.example/g00192/laws.FnUsed", spec := "fnUsed", unfollowed := true, recurses := true, apart := false }
def FnUsedSaid : Prop := fnUsedRow.holds Tryz.pinned (OpenSpec.ofChange fnUsedSpec)

/-- ITS FALSE NEIGHBOUR: 'it returns false'. Refute it at one input. -/
def fnUsedWrong : ChangeSpec := { name := "fnUsed", fn := fun _ => fun
  | [d] => { results := [.lit (.bool false)], args := [d] }
  | _ => none }
def FnUsedWrongFalsely : Prop := fnUsedRow.holds Tryz.pinned (OpenSpec.ofChange fnUsedWrong)

/-- 'laws.FnExactSplit': WHATEVER THE INPUT: true; the input reads as it did. -/
def fnExactSplitSpec : ChangeSpec := { name := "fnExactSplit", fn := fun _ => fun
  | [d] => { results := [.lit (.bool true)], args := [d] }
  | _ => none }
def fnExactSplitRow : OpenClaim := { program := "ytgdfgnppeekfjaagreat", sum := "1a80b9205a6bef4557783065429a30103ee49ae38a903804c9529cbb7cfab78a", func := "loop.example/g00192/laws.FnExactSplit", spec := "fnExactSplit", unfollowed := true, recurses := true, apart := false }
def FnExactSplitSaid : Prop := fnExactSplitRow.holds Tryz.pinned (OpenSpec.ofChange fnExactSplitSpec)

/-- ITS FALSE NEIGHBOUR: 'it returns false'. Refute it at one input. -/
def fnExactSplitWrong : ChangeSpec := { name := "fnExactSplit", fn := fun _ => fun
  | [d] => { results := [.lit (.bool false)], args := [d] }
  | _ => none }
def FnExactSplitWrongFalsely : Prop := fnExactSplitRow.holds Tryz.pinned (OpenSpec.ofChange fnExactSplitWrong)

/-- 'laws.FnSplit': WHATEVER THE INPUT: true; the input reads as it did. -/
def fnSplitSpec : ChangeSpec := { name := "fnSplit", fn := fun _ => fun
  | [d] => { results := [.lit (.bool true)], args := [d] }
  | _ => none }
def fnSplitRow : OpenClaim := { program := "ytgdfgnppeekfjaagreat", sum := "1a80b9205a6bef4557783065429a30103ee49ae38a903804c9529cbb7cfab78a", func := "loop.example/g00192/laws.FnSplit", spec := "fnSplit", unfollowed := true, recurses := true, apart := false }
def FnSplitSaid : Prop := fnSplitRow.holds Tryz.pinned (OpenSpec.ofChange fnSplitSpec)

/-- ITS FALSE NEIGHBOUR: 'it returns false'. Refute it at one input. -/
def fnSplitWrong : ChangeSpec := { name := "fnSplit", fn := fun _ => fun
  | [d] => { results := [.lit (.bool false)], args := [d] }
  | _ => none }
def FnSplitWrongFalsely : Prop := fnSplitRow.holds Tryz.pinned (OpenSpec.ofChange fnSplitWrong)

/-- 'laws.FnExactFold': WHATEVER THE INPUT: true; the input reads as it did. -/
def fnExactFoldSpec : ChangeSpec := { name := "fnExactFold", fn := fun _ => fun
  | [d] => { results := [.lit (.bool true)], args := [d] }
  | _ => none }
def fnExactFoldRow : OpenClaim := { program := "ytgdfgnppeekfjaagreat", sum := "1a80b9205a6bef4557783065429a30103ee49ae38a903804c9529cbb7cfab78a", func := "loop.example/g00192/laws.FnExactFold", spec := "fnExactFold", unfollowed := true, recurses := true, apart := false }
def FnExactFoldSaid : Prop := fnExactFoldRow.holds Tryz.pinned (OpenSpec.ofChange fnExactFoldSpec)

/-- ITS FALSE NEIGHBOUR: 'it returns false'. Refute it at one input. -/
def fnExactFoldWrong : ChangeSpec := { name := "fnExactFold", fn := fun _ => fun
  | [d] => { results := [.lit (.bool false)], args := [d] }
  | _ => none }
def FnExactFoldWrongFalsely : Prop := fnExactFoldRow.holds Tryz.pinned (OpenSpec.ofChange fnExactFoldWrong)

/-- 'laws.FnFolded': WHATEVER THE INPUT: true; the input reads as it did. -/
def fnFoldedSpec : ChangeSpec := { name := "fnFolded", fn := fun _ => fun
  | [d] => { results := [.lit (.bool true)], args := [d] }
  | _ => none }
def fnFoldedRow : OpenClaim := { program := "ytgdfgnppeekfjaagreat", sum := "1a80b9205a6bef4557783065429a30103ee49ae38a903804c9529cbb7cfab78a", func := "loop.example/g00192/laws.FnFolded", spec := "fnFolded", unfollowed := true, recurses := true, apart := false }
def FnFoldedSaid : Prop := fnFoldedRow.holds Tryz.pinned (OpenSpec.ofChange fnFoldedSpec)

/-- ITS FALSE NEIGHBOUR: 'it returns false'. Refute it at one input. -/
def fnFoldedWrong : ChangeSpec := { name := "fnFolded", fn := fun _ => fun
  | [d] => { results := [.lit (.bool false)], args := [d] }
  | _ => none }
def FnFoldedWrongFalsely : Prop := fnFoldedRow.holds Tryz.pinned (OpenSpec.ofChange fnFoldedWrong)

/-- 'laws.FnExactPrune': WHATEVER THE INPUT: true; the input reads as it did. -/
def fnExactPruneSpec : ChangeSpec := { name := "fnExactPrune", fn := fun _ => fun
  | [d] => { results := [.lit (.bool true)], args := [d] }
  | _ => none }
def fnExactPruneRow : OpenClaim := { program := "ytgdfgnppeekfjaagreat", sum := "1a80b9205a6bef4557783065429a30103ee49ae38a903804c9529cbb7cfab78a", func := "loop.example/g00192/laws.FnExactPrune", spec := "fnExactPrune", unfollowed := true, recurses := true, apart := false }
def FnExactPruneSaid : Prop := fnExactPruneRow.holds Tryz.pinned (OpenSpec.ofChange fnExactPruneSpec)

/-- ITS FALSE NEIGHBOUR: 'it returns false'. Refute it at one input. -/
def fnExactPruneWrong : ChangeSpec := { name := "fnExactPrune", fn := fun _ => fun
  | [d] => { results := [.lit (.bool false)], args := [d] }
  | _ => none }
def FnExactPruneWrongFalsely : Prop := fnExactPruneRow.holds Tryz.pinned (OpenSpec.ofChange fnExactPruneWrong)

/-- 'laws.FnPruned': WHATEVER THE INPUT: true; the input reads as it did. -/
def fnPrunedSpec : ChangeSpec := { name := "fnPruned", fn := fun _ => fun
  | [d] => { results := [.lit (.bool true)], args := [d] }
  | _ => none }
def fnPrunedRow : OpenClaim := { program := "ytgdfgnppeekfjaagreat", sum := "1a80b9205a6bef4557783065429a30103ee49ae38a903804c9529cbb7cfab78a", func := "loop.example/g00192/laws.FnPruned", spec := "fnPruned", unfollowed := true, recurses := true, apart := false }
def FnPrunedSaid : Prop := fnPrunedRow.holds Tryz.pinned (OpenSpec.ofChange fnPrunedSpec)

/-- ITS FALSE NEIGHBOUR: 'it returns false'. Refute it at one input. -/
def fnPrunedWrong : ChangeSpec := { name := "fnPruned", fn := fun _ => fun
  | [d] => { results := [.lit (.bool false)], args := [d] }
  | _ => none }
def FnPrunedWrongFalsely : Prop := fnPrunedRow.holds Tryz.pinned (OpenSpec.ofChange fnPrunedWrong)

/-- 'laws.FnSmaller': WHATEVER THE INPUT: true; the input reads as it did. -/
def fnSmallerSpec : ChangeSpec := { name := "fnSmaller", fn := fun _ => fun
  | [d] => { results := [.lit (.bool true)], args := [d] }
  | _ => none }
def fnSmallerRow : OpenClaim := { program := "ytgdfgnppeekfjaagreat", sum := "1a80b9205a6bef4557783065429a30103ee49ae38a903804c9529cbb7cfab78a", func := "loop.example/g00192/laws.FnSmaller", spec := "fnSmaller", unfollowed := true, recurses := true, apart := false }
def FnSmallerSaid : Prop := fnSmallerRow.holds Tryz.pinned (OpenSpec.ofChange fnSmallerSpec)

/-- ITS FALSE NEIGHBOUR: 'it returns false'. Refute it at one input. -/
def fnSmallerWrong : ChangeSpec := { name := "fnSmaller", fn := fun _ => fun
  | [d] => { results := [.lit (.bool false)], args := [d] }
  | _ => none }
def FnSmallerWrongFalsely : Prop := fnSmallerRow.holds Tryz.pinned (OpenSpec.ofChange fnSmallerWrong)

/-- 'laws.FnExactLower': WHATEVER THE INPUT: true; the input reads as it did. -/
def fnExactLowerSpec : ChangeSpec := { name := "fnExactLower", fn := fun _ => fun
  | [d] => { results := [.lit (.bool true)], args := [d] }
  | _ => none }
def fnExactLowerRow : OpenClaim := { program := "ytgdfgnppeekfjaagreat", sum := "1a80b9205a6bef4557783065429a30103ee49ae38a903804c9529cbb7cfab78a", func := "loop.example/g00192/laws.FnExactLower", spec := "fnExactLower", unfollowed := true, recurses := true, apart := false }
def FnExactLowerSaid : Prop := fnExactLowerRow.holds Tryz.pinned (OpenSpec.ofChange fnExactLowerSpec)

/-- ITS FALSE NEIGHBOUR: 'it returns false'. Refute it at one input. -/
def fnExactLowerWrong : ChangeSpec := { name := "fnExactLower", fn := fun _ => fun
  | [d] => { results := [.lit (.bool false)], args := [d] }
  | _ => none }
def FnExactLowerWrongFalsely : Prop := fnExactLowerRow.holds Tryz.pinned (OpenSpec.ofChange fnExactLowerWrong)

/-- 'laws.FnLowerRaw': WHATEVER THE INPUT: true; the input reads as it did. -/
def fnLowerRawSpec : ChangeSpec := { name := "fnLowerRaw", fn := fun _ => fun
  | [d] => { results := [.lit (.bool true)], args := [d] }
  | _ => none }
def fnLowerRawRow : OpenClaim := { program := "ytgdfgnppeekfjaagreat", sum := "1a80b9205a6bef4557783065429a30103ee49ae38a903804c9529cbb7cfab78a", func := "loop.example/g00192/laws.FnLowerRaw", spec := "fnLowerRaw", unfollowed := true, recurses := true, apart := false }
def FnLowerRawSaid : Prop := fnLowerRawRow.holds Tryz.pinned (OpenSpec.ofChange fnLowerRawSpec)

/-- ITS FALSE NEIGHBOUR: 'it returns false'. Refute it at one input. -/
def fnLowerRawWrong : ChangeSpec := { name := "fnLowerRaw", fn := fun _ => fun
  | [d] => { results := [.lit (.bool false)], args := [d] }
  | _ => none }
def FnLowerRawWrongFalsely : Prop := fnLowerRawRow.holds Tryz.pinned (OpenSpec.ofChange fnLowerRawWrong)

/- THE SECOND FORM. 'bulk': how many values and letters a reading holds, each counted each time it is reached (what is shared counts as often as it is met; a slice's spare places count too). A statement '..UptoSaid' is the law's where the arguments, and the package variables that the reading takes, are together of bulk at most 1048576: NARROWER than '..Said'. Prove '..Said' where nothing that the law and all that it calls make is longer than what came in: it says more and counts as full. Else prove '..UptoSaid'. A law counts once. -/
mutual
def uptoBulk {H : Type} : DataW H → Nat
  | .lit (.string bytes) => bytes.length + 1
  | .lit _ => 1
  | .nil => 1
  | .ptr d => uptoBulk d + 1
  | .slice elems spare => uptoBulkAll elems + uptoBulkAll spare + 1
  | .agg parts => uptoBulkAll parts + 1
  | .iface _ d => uptoBulk d + 1
  | .map entries => uptoBulkEntries entries + 1
  | .held _ => 1
def uptoBulkAll {H : Type} : List (DataW H) → Nat
  | [] => 0
  | d :: r => uptoBulk d + uptoBulkAll r
def uptoBulkEntries {H : Type} : List (Lit × DataW H) → Nat
  | [] => 0
  | x :: r => uptoBulkEntry x + uptoBulkEntries r
def uptoBulkEntry {H : Type} : Lit × DataW H → Nat
  | (.string bytes, d) => bytes.length + uptoBulk d + 1
  | (_, d) => uptoBulk d + 1
 end
def uptoSmall : (H : Type) → List (DataW H) → Bool := fun _ ds => decide (uptoBulkAll ds ≤ 1048576)
def OpenSpec.upto (s : _root_.Go.ChangeSpec) : _root_.Go.OpenSpec := { _root_.Go.OpenSpec.ofChange s with cond := some uptoSmall }

/-- 'laws.FnShape', WHERE WHAT IT READS IS OF BULK AT MOST 1048576: true; the input reads as it did. -/
def fnShapeUptoRow : OpenClaim := { program := "ytgdfgnppeekfjaagreat", sum := "1a80b9205a6bef4557783065429a30103ee49ae38a903804c9529cbb7cfab78a", func := "loop.example/g00192/laws.FnShape", spec := "fnShape", unfollowed := true, recurses := true, apart := false, narrowed := true }
def FnShapeUptoSaid : Prop := fnShapeUptoRow.holds Tryz.pinned (OpenSpec.upto fnShapeSpec)

/-- 'laws.FnChecked', WHERE WHAT IT READS IS OF BULK AT MOST 1048576: true; the input reads as it did. -/
def fnCheckedUptoRow : OpenClaim := { program := "ytgdfgnppeekfjaagreat", sum := "1a80b9205a6bef4557783065429a30103ee49ae38a903804c9529cbb7cfab78a", func := "loop.example/g00192/laws.FnChecked", spec := "fnChecked", unfollowed := true, recurses := true, apart := false, narrowed := true }
def FnCheckedUptoSaid : Prop := fnCheckedUptoRow.holds Tryz.pinned (OpenSpec.upto fnCheckedSpec)

/-- 'laws.FnExactCheck', WHERE WHAT IT READS IS OF BULK AT MOST 1048576: true; the input reads as it did. -/
def fnExactCheckUptoRow : OpenClaim := { program := "ytgdfgnppeekfjaagreat", sum := "1a80b9205a6bef4557783065429a30103ee49ae38a903804c9529cbb7cfab78a", func := "loop.example/g00192/laws.FnExactCheck", spec := "fnExactCheck", unfollowed := true, recurses := true, apart := false, narrowed := true }
def FnExactCheckUptoSaid : Prop := fnExactCheckUptoRow.holds Tryz.pinned (OpenSpec.upto fnExactCheckSpec)

/-- 'laws.FnExactUsed', WHERE WHAT IT READS IS OF BULK AT MOST 1048576: true; the input reads as it did. -/
def fnExactUsedUptoRow : OpenClaim := { program := "ytgdfgnppeekfjaagreat", sum := "1a80b9205a6bef4557783065429a30103ee49ae38a903804c9529cbb7cfab78a", func := "loop.example/g00192/laws.FnExactUsed", spec := "fnExactUsed", unfollowed := true, recurses := true, apart := false, narrowed := true }
def FnExactUsedUptoSaid : Prop := fnExactUsedUptoRow.holds Tryz.pinned (OpenSpec.upto fnExactUsedSpec)

/-- 'laws.FnUsed', WHERE WHAT IT READS IS OF BULK AT MOST 1048576: true; the input reads as it did. -/
def fnUsedUptoRow : OpenClaim := { program := "ytgdfgnppeekfjaagreat", sum := "1a80b9205a6bef4557783065429a30103ee49ae38a903804c9529cbb7cfab78a", func := "loop.example/g00192/laws.FnUsed", spec := "fnUsed", unfollowed := true, recurses := true, apart := false, narrowed := true }
def FnUsedUptoSaid : Prop := fnUsedUptoRow.holds Tryz.pinned (OpenSpec.upto fnUsedSpec)

/-- 'laws.FnExactSplit', WHERE WHAT IT READS IS OF BULK AT MOST 1048576: true; the input reads as it did. -/
def fnExactSplitUptoRow : OpenClaim := { program := "ytgdfgnppeekfjaagreat", sum := "1a80b9205a6bef4557783065429a30103ee49ae38a903804c9529cbb7cfab78a", func := "loop.example/g00192/laws.FnExactSplit", spec := "fnExactSplit", unfollowed := true, recurses := true, apart := false, narrowed := true }
def FnExactSplitUptoSaid : Prop := fnExactSplitUptoRow.holds Tryz.pinned (OpenSpec.upto fnExactSplitSpec)

/-- 'laws.FnSplit', WHERE WHAT IT READS IS OF BULK AT MOST 1048576: true; the input reads as it did. -/
def fnSplitUptoRow : OpenClaim := { program := "ytgdfgnppeekfjaagreat", sum := "1a80b9205a6bef4557783065429a30103ee49ae38a903804c9529cbb7cfab78a", func := "loop.example/g00192/laws.FnSplit", spec := "fnSplit", unfollowed := true, recurses := true, apart := false, narrowed := true }
def FnSplitUptoSaid : Prop := fnSplitUptoRow.holds Tryz.pinned (OpenSpec.upto fnSplitSpec)

/-- 'laws.FnExactFold', WHERE WHAT IT READS IS OF BULK AT MOST 1048576: true; the input reads as it did. -/
def fnExactFoldUptoRow : OpenClaim := { program := "ytgdfgnppeekfjaagreat", sum := "1a80b9205a6bef4557783065429a30103ee49ae38a903804c9529cbb7cfab78a", func := "loop.example/g00192/laws.FnExactFold", spec := "fnExactFold", unfollowed := true, recurses := true, apart := false, narrowed := true }
def FnExactFoldUptoSaid : Prop := fnExactFoldUptoRow.holds Tryz.pinned (OpenSpec.upto fnExactFoldSpec)

/-- 'laws.FnFolded', WHERE WHAT IT READS IS OF BULK AT MOST 1048576: true; the input reads as it did. -/
def fnFoldedUptoRow : OpenClaim := { program := "ytgdfgnppeekfjaagreat", sum := "1a80b9205a6bef4557783065429a30103ee49ae38a903804c9529cbb7cfab78a", func := "loop.example/g00192/laws.FnFolded", spec := "fnFolded", unfollowed := true, recurses := true, apart := false, narrowed := true }
def FnFoldedUptoSaid : Prop := fnFoldedUptoRow.holds Tryz.pinned (OpenSpec.upto fnFoldedSpec)

/-- 'laws.FnExactPrune', WHERE WHAT IT READS IS OF BULK AT MOST 1048576: true; the input reads as it did. -/
def fnExactPruneUptoRow : OpenClaim := { program := "ytgdfgnppeekfjaagreat", sum := "1a80b9205a6bef4557783065429a30103ee49ae38a903804c9529cbb7cfab78a", func := "loop.example/g00192/laws.FnExactPrune", spec := "fnExactPrune", unfollowed := true, recurses := true, apart := false, narrowed := true }
def FnExactPruneUptoSaid : Prop := fnExactPruneUptoRow.holds Tryz.pinned (OpenSpec.upto fnExactPruneSpec)

/-- 'laws.FnPruned', WHERE WHAT IT READS IS OF BULK AT MOST 1048576: true; the input reads as it did. -/
def fnPrunedUptoRow : OpenClaim := { program := "ytgdfgnppeekfjaagreat", sum := "1a80b9205a6bef4557783065429a30103ee49ae38a903804c9529cbb7cfab78a", func := "loop.example/g00192/laws.FnPruned", spec := "fnPruned", unfollowed := true, recurses := true, apart := false, narrowed := true }
def FnPrunedUptoSaid : Prop := fnPrunedUptoRow.holds Tryz.pinned (OpenSpec.upto fnPrunedSpec)

/-- 'laws.FnSmaller', WHERE WHAT IT READS IS OF BULK AT MOST 1048576: true; the input reads as it did. -/
def fnSmallerUptoRow : OpenClaim := { program := "ytgdfgnppeekfjaagreat", sum := "1a80b9205a6bef4557783065429a30103ee49ae38a903804c9529cbb7cfab78a", func := "loop.example/g00192/laws.FnSmaller", spec := "fnSmaller", unfollowed := true, recurses := true, apart := false, narrowed := true }
def FnSmallerUptoSaid : Prop := fnSmallerUptoRow.holds Tryz.pinned (OpenSpec.upto fnSmallerSpec)

/-- 'laws.FnExactLower', WHERE WHAT IT READS IS OF BULK AT MOST 1048576: true; the input reads as it did. -/
def fnExactLowerUptoRow : OpenClaim := { program := "ytgdfgnppeekfjaagreat", sum := "1a80b9205a6bef4557783065429a30103ee49ae38a903804c9529cbb7cfab78a", func := "loop.example/g00192/laws.FnExactLower", spec := "fnExactLower", unfollowed := true, recurses := true, apart := false, narrowed := true }
def FnExactLowerUptoSaid : Prop := fnExactLowerUptoRow.holds Tryz.pinned (OpenSpec.upto fnExactLowerSpec)

/-- 'laws.FnLowerRaw', WHERE WHAT IT READS IS OF BULK AT MOST 1048576: true; the input reads as it did. -/
def fnLowerRawUptoRow : OpenClaim := { program := "ytgdfgnppeekfjaagreat", sum := "1a80b9205a6bef4557783065429a30103ee49ae38a903804c9529cbb7cfab78a", func := "loop.example/g00192/laws.FnLowerRaw", spec := "fnLowerRaw", unfollowed := true, recurses := true, apart := false, narrowed := true }
def FnLowerRawUptoSaid : Prop := fnLowerRawUptoRow.holds Tryz.pinned (OpenSpec.upto fnLowerRawSpec)

end Rows
end Go.Proofs.YtgdfgnppeekfjaaGreat
