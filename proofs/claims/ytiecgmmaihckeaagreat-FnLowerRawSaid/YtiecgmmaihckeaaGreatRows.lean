/-
  No cell of these rows narrows 'for every input' (looked for: loops, veiled, ifaces, maps, wideKeys, modest, calm, conditions, laid).
  DERIVED. THE GIVEN ROWS OF THIS SEAT. 5 by the template 'for every input the law returns true; each argument reads behind the call as it read before'; 0 by the template 'total and deterministic' (their statements: YtiecgmmaihckeaaGreatTotals.lean).
  GIVEN WITH THE SEED: the statements are not yours to turn. If you find one false, say at which input.
  Laid BY PROGRAM, IN A SANDBOX (cutbox-rows.mjs): the forced cells as the released guide's own fill.sh prints them over the translation e72ebdf281c555e4… (all of the seat's roots in one cut). By AI agents, Wed Nov 11 2026. No macro, syntax, notation, axiom, sorry.
-/
import Derived.Test.YtiecgmmaihckeaaGreatChecked
import GoSem.Claim
import GoSem.ClaimJoined
import GoSem.ClaimMapViews
import Derived.JoinedTies
import Derived.KernelRfl
namespace Go.Proofs.YtiecgmmaihckeaaGreat
/- THE CELL 'sum', in the pinned program and in every row, IS THE sha256 OF THE DUMP (.gsa) THAT YtiecgmmaihckeaaGreatProg.lean LOADS. Nothing in Lean hashes anything: it is a label: what it is worth is what the hold of that sum in a sandbox is worth. -/
noncomputable def Tryz.pinned : Pinned := { name := "ytiecgmmaihckeaagreat", sum := "e72ebdf281c555e4646e6d7f6eca579f2bf8047d73401bc87e964ac478dde417", checked := Tryz.checked }
namespace Rows
def none {H : Type} : Left H := { results := [], args := [] }

/-- 'laws.FnSmaller': WHATEVER THE INPUT: true; the input reads as it did. -/
def fnSmallerSpec : ChangeSpec := { name := "fnSmaller", fn := fun _ => fun
  | [d] => { results := [.lit (.bool true)], args := [d] }
  | _ => none }
def fnSmallerRow : OpenClaim := { program := "ytiecgmmaihckeaagreat", sum := "e72ebdf281c555e4646e6d7f6eca579f2bf8047d73401bc87e964ac478dde417", func := "loop.example/g00192/laws.FnSmaller", spec := "fnSmaller", unfollowed := true, recurses := true, apart := false }
def FnSmallerSaid : Prop := fnSmallerRow.holds Tryz.pinned (OpenSpec.ofChange fnSmallerSpec)

/-- ITS FALSE NEIGHBOUR: 'it returns false'. Refute it at one input. -/
def fnSmallerWrong : ChangeSpec := { name := "fnSmaller", fn := fun _ => fun
  | [d] => { results := [.lit (.bool false)], args := [d] }
  | _ => none }
def FnSmallerWrongFalsely : Prop := fnSmallerRow.holds Tryz.pinned (OpenSpec.ofChange fnSmallerWrong)

/-- 'laws.FnFolded': WHATEVER THE INPUT: true; the input reads as it did. -/
def fnFoldedSpec : ChangeSpec := { name := "fnFolded", fn := fun _ => fun
  | [d] => { results := [.lit (.bool true)], args := [d] }
  | _ => none }
def fnFoldedRow : OpenClaim := { program := "ytiecgmmaihckeaagreat", sum := "e72ebdf281c555e4646e6d7f6eca579f2bf8047d73401bc87e964ac478dde417", func := "loop.example/g00192/laws.FnFolded", spec := "fnFolded", unfollowed := true, recurses := true, apart := false }
def FnFoldedSaid : Prop := fnFoldedRow.holds Tryz.pinned (OpenSpec.ofChange fnFoldedSpec)

/-- ITS FALSE NEIGHBOUR: 'it returns false'. Refute it at one input. -/
def fnFoldedWrong : ChangeSpec := { name := "fnFolded", fn := fun _ => fun
  | [d] => { results := [.lit (.bool false)], args := [d] }
  | _ => none }
def FnFoldedWrongFalsely : Prop := fnFoldedRow.holds Tryz.pinned (OpenSpec.ofChange fnFoldedWrong)

/-- 'laws.FnPruned': WHATEVER THE INPUT: true; the input reads as it did. -/
def fnPrunedSpec : ChangeSpec := { name := "fnPruned", fn := fun _ => fun
  | [d] => { results := [.lit (.bool true)], args := [d] }
  | _ => none }
def fnPrunedRow : OpenClaim := { program := "ytiecgmmaihckeaagreat", sum := "e72ebdf281c555e4646e6d7f6eca579f2bf8047d73401bc87e964ac478dde417", func := "loop.example/g00192/laws.FnPruned", spec := "fnPruned", unfollowed := true, recurses := true, apart := false }
def FnPrunedSaid : Prop := fnPrunedRow.holds Tryz.pinned (OpenSpec.ofChange fnPrunedSpec)

/-- ITS FALSE NEIGHBOUR: 'it returns false'. Refute it at one input. -/
def fnPrunedWrong : ChangeSpec := { name := "fnPruned", fn := fun _ => fun
  | [d] => { results := [.lit (.bool false)], args := [d] }
  | _ => none }
def FnPrunedWrongFalsely : Prop := fnPrunedRow.holds Tryz.pinned (OpenSpec.ofChange fnPrunedWrong)

/-- 'laws.FnSplit': WHATEVER THE INPUT: true; the input reads as it did. -/
def fnSplitSpec : ChangeSpec := { name := "fnSplit", fn := fun _ => fun
  | [d] => { results := [.lit (.bool true)], args := [d] }
  | _ => none }
def fnSplitRow : OpenClaim := { program := "ytiecgmmaihckeaagreat", sum := "e72ebdf281c555e4646e6d7f6eca579f2bf8047d73401bc87e964ac478dde417", func := "loop.example/g00192/laws.FnSplit", spec := "fnSplit", unfollowed := true, recurses := true, apart := false }
def FnSplitSaid : Prop := fnSplitRow.holds Tryz.pinned (OpenSpec.ofChange fnSplitSpec)

/-- ITS FALSE NEIGHBOUR: 'it returns false'. Refute it at one input. -/
def fnSplitWrong : ChangeSpec := { name := "fnSplit", fn := fun _ => fun
  | [d] => { results := [.lit (.bool false)], args := [d] }
  | _ => none }
def FnSplitWrongFalsely : Prop := fnSplitRow.holds Tryz.pinned (OpenSpec.ofChange fnSplitWrong)

/-- 'laws.FnLowerRaw': WHATEVER THE INPUT: true; the input reads as it did. -/
def fnLowerRawSpec : ChangeSpec := { name := "fnLowerRaw", fn := fun _ => fun
  | [d] => { results := [.lit (.bool true)], args := [d] }
  | _ => none }
def fnLowerRawRow : OpenClaim := { program := "ytiecgmmaihckeaagreat", sum := "e72ebdf281c555e4646e6d7f6eca579f2bf8047d73401bc87e964ac478dde417", func := "loop.example/g00192/laws.FnLowerRaw", spec := "fnLowerRaw", unfollowed := true, recurses := true, apart := false }
def FnLowerRawSaid : Prop := fnLowerRawRow.holds Tryz.pinned (OpenSpec.ofChange fnLowerRawSpec)

/-- ITS FALSE NEIGHBOUR: 'it returns false'. Refute it at one input. -/
def fnLowerRawWrong : ChangeSpec := { name := "fnLowerRaw", fn := fun _ => fun
  | [d] => { results := [.lit (.bool false)], args := [d] }
  | _ => none }
def FnLowerRawWrongFalsely : Prop := fnLowerRawRow.holds Tryz.pinned (OpenSpec.ofChange fnLowerRawWrong)

/- THE SECOND FORM. 'bulk': how many values and letters a reading holds, each counted each time it is reached (what is shared counts as often as it is met; a slice's spare places count too). A statement '..UptoSaid' is the law's where the arguments, and the package variables that the reading takes, are together of bulk at most 1048576: NARROWER than '..Said'. Prove '..Said' where nothing that the law and all that it calls make is longer than what came in: it says more and counts as full. Else prove '..UptoSaid'. A law counts once. -/
mutual
def uptoBulk {H : Type} : DataW H → Nat
  | .lit (.string bytes) => bytes.length + 1
  | .lit _ => 1
  | .nil => 1
  | .ptr d => uptoBulk d + 1
  | .slice elems spare => uptoBulkAll elems + uptoBulkAll spare + 1
  | .agg parts => uptoBulkAll parts + 1
  | .iface _ d => uptoBulk d + 1
  | .map entries => uptoBulkEntries entries + 1
  | .held _ => 1
def uptoBulkAll {H : Type} : List (DataW H) → Nat
  | [] => 0
  | d :: r => uptoBulk d + uptoBulkAll r
def uptoBulkEntries {H : Type} : List (Lit × DataW H) → Nat
  | [] => 0
  | x :: r => uptoBulkEntry x + uptoBulkEntries r
def uptoBulkEntry {H : Type} : Lit × DataW H → Nat
  | (.string bytes, d) => bytes.length + uptoBulk d + 1
  | (_, d) => uptoBulk d + 1
 end
def uptoSmall : (H : Type) → List (DataW H) → Bool := fun _ ds => decide (uptoBulkAll ds ≤ 1048576)
def OpenSpec.upto (s : _root_.Go.ChangeSpec) : _root_.Go.OpenSpec := { _root_.Go.OpenSpec.ofChange s with cond := some uptoSmall }

/-- 'laws.FnSmaller', WHERE WHAT IT READS IS OF BULK AT MOST 1048576: true; the input reads as it did. -/
def fnSmallerUptoRow : OpenClaim := { program := "ytiecgmmaihckeaagreat", sum := "e72ebdf281c555e4646e6d7f6eca579f2bf8047d73401bc87e964ac478dde417", func := "loop.example/g00192/laws.FnSmaller", spec := "fnSmaller", unfollowed := true, recurses := true, apart := false, narrowed := true }
def FnSmallerUptoSaid : Prop := fnSmallerUptoRow.holds Tryz.pinned (OpenSpec.upto fnSmallerSpec)

/-- 'laws.FnFolded', WHERE WHAT IT READS IS OF BULK AT MOST 1048576: true; the input reads as it did. -/
def fnFoldedUptoRow : OpenClaim := { program := "ytiecgmmaihckeaagreat", sum := "e72ebdf281c555e4646e6d7f6eca579f2bf8047d73401bc87e964ac478dde417", func := "loop.example/g00192/laws.FnFolded", spec := "fnFolded", unfollowed := true, recurses := true, apart := false, narrowed := true }
def FnFoldedUptoSaid : Prop := fnFoldedUptoRow.holds Tryz.pinned (OpenSpec.upto fnFoldedSpec)

/-- 'laws.FnPruned', WHERE WHAT IT READS IS OF BULK AT MOST 1048576: true; the input reads as it did. -/
def fnPrunedUptoRow : OpenClaim := { program := "ytiecgmmaihckeaagreat", sum := "e72ebdf281c555e4646e6d7f6eca579f2bf8047d73401bc87e964ac478dde417", func := "loop.example/g00192/laws.FnPruned", spec := "fnPruned", unfollowed := true, recurses := true, apart := false, narrowed := true }
def FnPrunedUptoSaid : Prop := fnPrunedUptoRow.holds Tryz.pinned (OpenSpec.upto fnPrunedSpec)

/-- 'laws.FnSplit', WHERE WHAT IT READS IS OF BULK AT MOST 1048576: true; the input reads as it did. -/
def fnSplitUptoRow : OpenClaim := { program := "ytiecgmmaihckeaagreat", sum := "e72ebdf281c555e4646e6d7f6eca579f2bf8047d73401bc87e964ac478dde417", func := "loop.example/g00192/laws.FnSplit", spec := "fnSplit", unfollowed := true, recurses := true, apart := false, narrowed := true }
def FnSplitUptoSaid : Prop := fnSplitUptoRow.holds Tryz.pinned (OpenSpec.upto fnSplitSpec)

/-- 'laws.FnLowerRaw', WHERE WHAT IT READS IS OF BULK AT MOST 1048576: true; the input reads as it did. -/
def fnLowerRawUptoRow : OpenClaim := { program := "ytiecgmmaihckeaagreat", sum := "e72ebdf281c555e4646e6d7f6eca579f2bf8047d73401bc87e964ac478dde417", func := "loop.example/g00192/laws.FnLowerRaw", spec := "fnLowerRaw", unfollowed := true, recurses := true, apart := false, narrowed := true }
def FnLowerRawUptoSaid : Prop := fnLowerRawUptoRow.holds Tryz.pinned (OpenSpec.upto fnLowerRawSpec)

end Rows
end Go.Proofs.YtiecgmmaihckeaaGreat
