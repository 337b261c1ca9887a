/-
  No cell of these rows narrows 'for every input' (looked for: loops, veiled, ifaces, maps, wideKeys, modest, calm, conditions, laid).
  DERIVED. THE GIVEN ROWS OF THIS SEAT. 12 by the template 'for every input the law returns true; each argument reads behind the call as it read before'; 0 by the template 'total and deterministic' (their statements: YtnpbldjbfkpbcaaTotals.lean).
  GIVEN WITH THE SEED: the statements are not yours to turn. If you find one false, say at which input.
  Laid BY PROGRAM, IN A SANDBOX (cutbox-rows.mjs): the forced cells as the released guide's own fill.sh prints them over the translation a36c4e2857b0baa0… (all of the seat's roots in one cut). By AI agents, Wed Nov 11 2026. No macro, syntax, notation, axiom, sorry.
-/
import Derived.Test.YtnpbldjbfkpbcaaChecked
import GoSem.Claim
import GoSem.ClaimJoined
import GoSem.ClaimMapViews
import Derived.JoinedTies
import Derived.KernelRfl
namespace Go.Proofs.Ytnpbldjbfkpbcaa
/- THE CELL 'sum', in the pinned program and in every row, IS THE sha256 OF THE DUMP (.gsa) THAT YtnpbldjbfkpbcaaProg.lean LOADS. Nothing in Lean hashes anything: it is a label: what it is worth is what the hold of that sum in a sandbox is worth. -/
noncomputable def Try.pinned : Pinned := { name := "ytnpbldjbfkpbcaa", sum := "a36c4e2857b0baa05e09395edd998241a3dbc8894fb6a480ffc83c14d52794d8", checked := Try.checked }
namespace Rows
def none {H : Type} : Left H := { results := [], args := [] }

/-- 'laws.FnMoves': WHATEVER THE INPUT: true; the input reads as it did. -/
def fnMovesSpec : ChangeSpec := { name := "fnMoves", fn := fun _ => fun
  | [d] => { results := [.lit (.bool true)], args := [d] }
  | _ => none }
def fnMovesRow : OpenClaim := { program := "ytnpbldjbfkpbcaa", sum := "a36c4e2857b0baa05e09395edd998241a3dbc8894fb6a480ffc83c14d52794d8", func := "loop.example/g00192/laws.FnMoves", spec := "fnMoves", unfollowed := true, recurses := true, apart := false }
def FnMovesSaid : Prop := fnMovesRow.holds Try.pinned (OpenSpec.ofChange fnMovesSpec)

/-- ITS FALSE NEIGHBOUR: 'it returns false'. Refute it at one input. -/
def fnMovesWrong : ChangeSpec := { name := "fnMoves", fn := fun _ => fun
  | [d] => { results := [.lit (.bool false)], args := [d] }
  | _ => none }
def FnMovesWrongFalsely : Prop := fnMovesRow.holds Try.pinned (OpenSpec.ofChange fnMovesWrong)

/-- 'laws.FnWordNames': WHATEVER THE INPUT: true; the input reads as it did. -/
def fnWordNamesSpec : ChangeSpec := { name := "fnWordNames", fn := fun _ => fun
  | [d] => { results := [.lit (.bool true)], args := [d] }
  | _ => none }
def fnWordNamesRow : OpenClaim := { program := "ytnpbldjbfkpbcaa", sum := "a36c4e2857b0baa05e09395edd998241a3dbc8894fb6a480ffc83c14d52794d8", func := "loop.example/g00192/laws.FnWordNames", spec := "fnWordNames", apart := false }
def FnWordNamesSaid : Prop := fnWordNamesRow.holds Try.pinned (OpenSpec.ofChange fnWordNamesSpec)

/-- ITS FALSE NEIGHBOUR: 'it returns false'. Refute it at one input. -/
def fnWordNamesWrong : ChangeSpec := { name := "fnWordNames", fn := fun _ => fun
  | [d] => { results := [.lit (.bool false)], args := [d] }
  | _ => none }
def FnWordNamesWrongFalsely : Prop := fnWordNamesRow.holds Try.pinned (OpenSpec.ofChange fnWordNamesWrong)

/-- 'laws.FnShifts': WHATEVER THE INPUT: true; the input reads as it did. -/
def fnShiftsSpec : ChangeSpec := { name := "fnShifts", fn := fun _ => fun
  | [d] => { results := [.lit (.bool true)], args := [d] }
  | _ => none }
def fnShiftsRow : OpenClaim := { program := "ytnpbldjbfkpbcaa", sum := "a36c4e2857b0baa05e09395edd998241a3dbc8894fb6a480ffc83c14d52794d8", func := "loop.example/g00192/laws.FnShifts", spec := "fnShifts", apart := false }
def FnShiftsSaid : Prop := fnShiftsRow.holds Try.pinned (OpenSpec.ofChange fnShiftsSpec)

/-- ITS FALSE NEIGHBOUR: 'it returns false'. Refute it at one input. -/
def fnShiftsWrong : ChangeSpec := { name := "fnShifts", fn := fun _ => fun
  | [d] => { results := [.lit (.bool false)], args := [d] }
  | _ => none }
def FnShiftsWrongFalsely : Prop := fnShiftsRow.holds Try.pinned (OpenSpec.ofChange fnShiftsWrong)

/-- 'laws.FnWords': WHATEVER THE INPUT: true; the input reads as it did. -/
def fnWordsSpec : ChangeSpec := { name := "fnWords", fn := fun _ => fun
  | [d] => { results := [.lit (.bool true)], args := [d] }
  | _ => none }
def fnWordsRow : OpenClaim := { program := "ytnpbldjbfkpbcaa", sum := "a36c4e2857b0baa05e09395edd998241a3dbc8894fb6a480ffc83c14d52794d8", func := "loop.example/g00192/laws.FnWords", spec := "fnWords", apart := false }
def FnWordsSaid : Prop := fnWordsRow.holds Try.pinned (OpenSpec.ofChange fnWordsSpec)

/-- ITS FALSE NEIGHBOUR: 'it returns false'. Refute it at one input. -/
def fnWordsWrong : ChangeSpec := { name := "fnWords", fn := fun _ => fun
  | [d] => { results := [.lit (.bool false)], args := [d] }
  | _ => none }
def FnWordsWrongFalsely : Prop := fnWordsRow.holds Try.pinned (OpenSpec.ofChange fnWordsWrong)

/-- 'laws.FnExactMovesEach': WHATEVER THE INPUT: true; the input reads as it did. -/
def fnExactMovesEachSpec : ChangeSpec := { name := "fnExactMovesEach", fn := fun _ => fun
  | [d1, d2] => { results := [.lit (.bool true)], args := [d1, d2] }
  | _ => none }
def fnExactMovesEachRow : OpenClaim := { program := "ytnpbldjbfkpbcaa", sum := "a36c4e2857b0baa05e09395edd998241a3dbc8894fb6a480ffc83c14d52794d8", func := "loop.example/g00192/laws.FnExactMovesEach", spec := "fnExactMovesEach", apart := false }
def FnExactMovesEachSaid : Prop := fnExactMovesEachRow.holds Try.pinned (OpenSpec.ofChange fnExactMovesEachSpec)

/-- ITS FALSE NEIGHBOUR: 'it returns false'. Refute it at one input. -/
def fnExactMovesEachWrong : ChangeSpec := { name := "fnExactMovesEach", fn := fun _ => fun
  | [d1, d2] => { results := [.lit (.bool false)], args := [d1, d2] }
  | _ => none }
def FnExactMovesEachWrongFalsely : Prop := fnExactMovesEachRow.holds Try.pinned (OpenSpec.ofChange fnExactMovesEachWrong)

/-- 'laws.FnDoms': WHATEVER THE INPUT: true; the input reads as it did. -/
def fnDomsSpec : ChangeSpec := { name := "fnDoms", fn := fun _ => fun
  | [d] => { results := [.lit (.bool true)], args := [d] }
  | _ => none }
def fnDomsRow : OpenClaim := { program := "ytnpbldjbfkpbcaa", sum := "a36c4e2857b0baa05e09395edd998241a3dbc8894fb6a480ffc83c14d52794d8", func := "loop.example/g00192/laws.FnDoms", spec := "fnDoms", unfollowed := true, recurses := true, apart := false }
def FnDomsSaid : Prop := fnDomsRow.holds Try.pinned (OpenSpec.ofChange fnDomsSpec)

/-- ITS FALSE NEIGHBOUR: 'it returns false'. Refute it at one input. -/
def fnDomsWrong : ChangeSpec := { name := "fnDoms", fn := fun _ => fun
  | [d] => { results := [.lit (.bool false)], args := [d] }
  | _ => none }
def FnDomsWrongFalsely : Prop := fnDomsRow.holds Try.pinned (OpenSpec.ofChange fnDomsWrong)

/-- 'laws.FnEach': WHATEVER THE INPUT: true; the input reads as it did. -/
def fnEachSpec : ChangeSpec := { name := "fnEach", fn := fun _ => fun
  | [d] => { results := [.lit (.bool true)], args := [d] }
  | _ => none }
def fnEachRow : OpenClaim := { program := "ytnpbldjbfkpbcaa", sum := "a36c4e2857b0baa05e09395edd998241a3dbc8894fb6a480ffc83c14d52794d8", func := "loop.example/g00192/laws.FnEach", spec := "fnEach", apart := false }
def FnEachSaid : Prop := fnEachRow.holds Try.pinned (OpenSpec.ofChange fnEachSpec)

/-- ITS FALSE NEIGHBOUR: 'it returns false'. Refute it at one input. -/
def fnEachWrong : ChangeSpec := { name := "fnEach", fn := fun _ => fun
  | [d] => { results := [.lit (.bool false)], args := [d] }
  | _ => none }
def FnEachWrongFalsely : Prop := fnEachRow.holds Try.pinned (OpenSpec.ofChange fnEachWrong)

/-- 'laws.FnTakes': WHATEVER THE INPUT: true; the input reads as it did. -/
def fnTakesSpec : ChangeSpec := { name := "fnTakes", fn := fun _ => fun
  | [d] => { results := [.lit (.bool true)], args := [d] }
  | _ => none }
def fnTakesRow : OpenClaim := { program := "ytnpbldjbfkpbcaa", sum := "a36c4e2857b0baa05e09395edd998241a3dbc8894fb6a480ffc83c14d52794d8", func := "loop.example/g00192/laws.FnTakes", spec := "fnTakes", apart := false }
def FnTakesSaid : Prop := fnTakesRow.holds Try.pinned (OpenSpec.ofChange fnTakesSpec)

/-- ITS FALSE NEIGHBOUR: 'it returns false'. Refute it at one input. -/
def fnTakesWrong : ChangeSpec := { name := "fnTakes", fn := fun _ => fun
  | [d] => { results := [.lit (.bool false)], args := [d] }
  | _ => none }
def FnTakesWrongFalsely : Prop := fnTakesRow.holds Try.pinned (OpenSpec.ofChange fnTakesWrong)

/-- 'laws.FnExactMovesDo': WHATEVER THE INPUT: true; the input reads as it did. -/
def fnExactMovesDoSpec : ChangeSpec := { name := "fnExactMovesDo", fn := fun _ => fun
  | [d1, d2] => { results := [.lit (.bool true)], args := [d1, d2] }
  | _ => none }
def fnExactMovesDoRow : OpenClaim := { program := "ytnpbldjbfkpbcaa", sum := "a36c4e2857b0baa05e09395edd998241a3dbc8894fb6a480ffc83c14d52794d8", func := "loop.example/g00192/laws.FnExactMovesDo", spec := "fnExactMovesDo", unfollowed := true, recurses := true, apart := false }
def FnExactMovesDoSaid : Prop := fnExactMovesDoRow.holds Try.pinned (OpenSpec.ofChange fnExactMovesDoSpec)

/-- ITS FALSE NEIGHBOUR: 'it returns false'. Refute it at one input. -/
def fnExactMovesDoWrong : ChangeSpec := { name := "fnExactMovesDo", fn := fun _ => fun
  | [d1, d2] => { results := [.lit (.bool false)], args := [d1, d2] }
  | _ => none }
def FnExactMovesDoWrongFalsely : Prop := fnExactMovesDoRow.holds Try.pinned (OpenSpec.ofChange fnExactMovesDoWrong)

/-- 'laws.FnExactSequence': WHATEVER THE INPUT: true; the input reads as it did. -/
def fnExactSequenceSpec : ChangeSpec := { name := "fnExactSequence", fn := fun _ => fun
  | [d1, d2] => { results := [.lit (.bool true)], args := [d1, d2] }
  | _ => none }
def fnExactSequenceRow : OpenClaim := { program := "ytnpbldjbfkpbcaa", sum := "a36c4e2857b0baa05e09395edd998241a3dbc8894fb6a480ffc83c14d52794d8", func := "loop.example/g00192/laws.FnExactSequence", spec := "fnExactSequence", unfollowed := true, recurses := true, apart := false }
def FnExactSequenceSaid : Prop := fnExactSequenceRow.holds Try.pinned (OpenSpec.ofChange fnExactSequenceSpec)

/-- ITS FALSE NEIGHBOUR: 'it returns false'. Refute it at one input. -/
def fnExactSequenceWrong : ChangeSpec := { name := "fnExactSequence", fn := fun _ => fun
  | [d1, d2] => { results := [.lit (.bool false)], args := [d1, d2] }
  | _ => none }
def FnExactSequenceWrongFalsely : Prop := fnExactSequenceRow.holds Try.pinned (OpenSpec.ofChange fnExactSequenceWrong)

/-- 'laws.FnDefAt': WHATEVER THE INPUT: true; the input reads as it did. -/
def fnDefAtSpec : ChangeSpec := { name := "fnDefAt", fn := fun _ => fun
  | [d] => { results := [.lit (.bool true)], args := [d] }
  | _ => none }
def fnDefAtRow : OpenClaim := { program := "ytnpbldjbfkpbcaa", sum := "a36c4e2857b0baa05e09395edd998241a3dbc8894fb6a480ffc83c14d52794d8", func := "loop.example/g00192/laws.FnDefAt", spec := "fnDefAt", unfollowed := true, recurses := true, apart := false }
def FnDefAtSaid : Prop := fnDefAtRow.holds Try.pinned (OpenSpec.ofChange fnDefAtSpec)

/-- ITS FALSE NEIGHBOUR: 'it returns false'. Refute it at one input. -/
def fnDefAtWrong : ChangeSpec := { name := "fnDefAt", fn := fun _ => fun
  | [d] => { results := [.lit (.bool false)], args := [d] }
  | _ => none }
def FnDefAtWrongFalsely : Prop := fnDefAtRow.holds Try.pinned (OpenSpec.ofChange fnDefAtWrong)

/-- 'laws.FnExactDoms': WHATEVER THE INPUT: true; the input reads as it did. -/
def fnExactDomsSpec : ChangeSpec := { name := "fnExactDoms", fn := fun _ => fun
  | [d] => { results := [.lit (.bool true)], args := [d] }
  | _ => none }
def fnExactDomsRow : OpenClaim := { program := "ytnpbldjbfkpbcaa", sum := "a36c4e2857b0baa05e09395edd998241a3dbc8894fb6a480ffc83c14d52794d8", func := "loop.example/g00192/laws.FnExactDoms", spec := "fnExactDoms", unfollowed := true, recurses := true, apart := false }
def FnExactDomsSaid : Prop := fnExactDomsRow.holds Try.pinned (OpenSpec.ofChange fnExactDomsSpec)

/-- ITS FALSE NEIGHBOUR: 'it returns false'. Refute it at one input. -/
def fnExactDomsWrong : ChangeSpec := { name := "fnExactDoms", fn := fun _ => fun
  | [d] => { results := [.lit (.bool false)], args := [d] }
  | _ => none }
def FnExactDomsWrongFalsely : Prop := fnExactDomsRow.holds Try.pinned (OpenSpec.ofChange fnExactDomsWrong)

/- THE SECOND FORM. 'bulk': how many values and letters a reading holds, each counted each time it is reached (what is shared counts as often as it is met; a slice's spare places count too). A statement '..UptoSaid' is the law's where the arguments, and the package variables that the reading takes, are together of bulk at most 1048576: NARROWER than '..Said'. Prove '..Said' where nothing that the law and all that it calls make is longer than what came in: it says more and counts as full. Else prove '..UptoSaid'. A law counts once. -/
mutual
def uptoBulk {H : Type} : DataW H → Nat
  | .lit (.string bytes) => bytes.length + 1
  | .lit _ => 1
  | .nil => 1
  | .ptr d => uptoBulk d + 1
  | .slice elems spare => uptoBulkAll elems + uptoBulkAll spare + 1
  | .agg parts => uptoBulkAll parts + 1
  | .iface _ d => uptoBulk d + 1
  | .map entries => uptoBulkEntries entries + 1
  | .held _ => 1
def uptoBulkAll {H : Type} : List (DataW H) → Nat
  | [] => 0
  | d :: r => uptoBulk d + uptoBulkAll r
def uptoBulkEntries {H : Type} : List (Lit × DataW H) → Nat
  | [] => 0
  | x :: r => uptoBulkEntry x + uptoBulkEntries r
def uptoBulkEntry {H : Type} : Lit × DataW H → Nat
  | (.string bytes, d) => bytes.length + uptoBulk d + 1
  | (_, d) => uptoBulk d + 1
 end
def uptoSmall : (H : Type) → List (DataW H) → Bool := fun _ ds => decide (uptoBulkAll ds ≤ 1048576)
def OpenSpec.upto (s : _root_.Go.ChangeSpec) : _root_.Go.OpenSpec := { _root_.Go.OpenSpec.ofChange s with cond := some uptoSmall }

/-- 'laws.FnMoves', WHERE WHAT IT READS IS OF BULK AT MOST 1048576: true; the input reads as it did. -/
def fnMovesUptoRow : OpenClaim := { program := "ytnpbldjbfkpbcaa", sum := "a36c4e2857b0baa05e09395edd998241a3dbc8894fb6a480ffc83c14d52794d8", func := "loop.example/g00192/laws.FnMoves", spec := "fnMoves", unfollowed := true, recurses := true, apart := false, narrowed := true }
def FnMovesUptoSaid : Prop := fnMovesUptoRow.holds Try.pinned (OpenSpec.upto fnMovesSpec)

/-- 'laws.FnWordNames', WHERE WHAT IT READS IS OF BULK AT MOST 1048576: true; the input reads as it did. -/
def fnWordNamesUptoRow : OpenClaim := { program := "ytnpbldjbfkpbcaa", sum := "a36c4e2857b0baa05e09395edd998241a3dbc8894fb6a480ffc83c14d52794d8", func := "loop.example/g00192/laws.FnWordNames", spec := "fnWordNames", apart := false, narrowed := true }
def FnWordNamesUptoSaid : Prop := fnWordNamesUptoRow.holds Try.pinned (OpenSpec.upto fnWordNamesSpec)

/-- 'laws.FnShifts', WHERE WHAT IT READS IS OF BULK AT MOST 1048576: true; the input reads as it did. -/
def fnShiftsUptoRow : OpenClaim := { program := "ytnpbldjbfkpbcaa", sum := "a36c4e2857b0baa05e09395edd998241a3dbc8894fb6a480ffc83c14d52794d8", func := "loop.example/g00192/laws.FnShifts", spec := "fnShifts", apart := false, narrowed := true }
def FnShiftsUptoSaid : Prop := fnShiftsUptoRow.holds Try.pinned (OpenSpec.upto fnShiftsSpec)

/-- 'laws.FnWords', WHERE WHAT IT READS IS OF BULK AT MOST 1048576: true; the input reads as it did. -/
def fnWordsUptoRow : OpenClaim := { program := "ytnpbldjbfkpbcaa", sum := "a36c4e2857b0baa05e09395edd998241a3dbc8894fb6a480ffc83c14d52794d8", func := "loop.example/g00192/laws.FnWords", spec := "fnWords", apart := false, narrowed := true }
def FnWordsUptoSaid : Prop := fnWordsUptoRow.holds Try.pinned (OpenSpec.upto fnWordsSpec)

/-- 'laws.FnExactMovesEach', WHERE WHAT IT READS IS OF BULK AT MOST 1048576: true; the input reads as it did. -/
def fnExactMovesEachUptoRow : OpenClaim := { program := "ytnpbldjbfkpbcaa", sum := "a36c4e2857b0baa05e09395edd998241a3dbc8894fb6a480ffc83c14d52794d8", func := "loop.example/g00192/laws.FnExactMovesEach", spec := "fnExactMovesEach", apart := false, narrowed := true }
def FnExactMovesEachUptoSaid : Prop := fnExactMovesEachUptoRow.holds Try.pinned (OpenSpec.upto fnExactMovesEachSpec)

/-- 'laws.FnDoms', WHERE WHAT IT READS IS OF BULK AT MOST 1048576: true; the input reads as it did. -/
def fnDomsUptoRow : OpenClaim := { program := "ytnpbldjbfkpbcaa", sum := "a36c4e2857b0baa05e09395edd998241a3dbc8894fb6a480ffc83c14d52794d8", func := "loop.example/g00192/laws.FnDoms", spec := "fnDoms", unfollowed := true, recurses := true, apart := false, narrowed := true }
def FnDomsUptoSaid : Prop := fnDomsUptoRow.holds Try.pinned (OpenSpec.upto fnDomsSpec)

/-- 'laws.FnEach', WHERE WHAT IT READS IS OF BULK AT MOST 1048576: true; the input reads as it did. -/
def fnEachUptoRow : OpenClaim := { program := "ytnpbldjbfkpbcaa", sum := "a36c4e2857b0baa05e09395edd998241a3dbc8894fb6a480ffc83c14d52794d8", func := "loop.example/g00192/laws.FnEach", spec := "fnEach", apart := false, narrowed := true }
def FnEachUptoSaid : Prop := fnEachUptoRow.holds Try.pinned (OpenSpec.upto fnEachSpec)

/-- 'laws.FnTakes', WHERE WHAT IT READS IS OF BULK AT MOST 1048576: true; the input reads as it did. -/
def fnTakesUptoRow : OpenClaim := { program := "ytnpbldjbfkpbcaa", sum := "a36c4e2857b0baa05e09395edd998241a3dbc8894fb6a480ffc83c14d52794d8", func := "loop.example/g00192/laws.FnTakes", spec := "fnTakes", apart := false, narrowed := true }
def FnTakesUptoSaid : Prop := fnTakesUptoRow.holds Try.pinned (OpenSpec.upto fnTakesSpec)

/-- 'laws.FnExactMovesDo', WHERE WHAT IT READS IS OF BULK AT MOST 1048576: true; the input reads as it did. -/
def fnExactMovesDoUptoRow : OpenClaim := { program := "ytnpbldjbfkpbcaa", sum := "a36c4e2857b0baa05e09395edd998241a3dbc8894fb6a480ffc83c14d52794d8", func := "loop.example/g00192/laws.FnExactMovesDo", spec := "fnExactMovesDo", unfollowed := true, recurses := true, apart := false, narrowed := true }
def FnExactMovesDoUptoSaid : Prop := fnExactMovesDoUptoRow.holds Try.pinned (OpenSpec.upto fnExactMovesDoSpec)

/-- 'laws.FnExactSequence', WHERE WHAT IT READS IS OF BULK AT MOST 1048576: true; the input reads as it did. -/
def fnExactSequenceUptoRow : OpenClaim := { program := "ytnpbldjbfkpbcaa", sum := "a36c4e2857b0baa05e09395edd998241a3dbc8894fb6a480ffc83c14d52794d8", func := "loop.example/g00192/laws.FnExactSequence", spec := "fnExactSequence", unfollowed := true, recurses := true, apart := false, narrowed := true }
def FnExactSequenceUptoSaid : Prop := fnExactSequenceUptoRow.holds Try.pinned (OpenSpec.upto fnExactSequenceSpec)

/-- 'laws.FnDefAt', WHERE WHAT IT READS IS OF BULK AT MOST 1048576: true; the input reads as it did. -/
def fnDefAtUptoRow : OpenClaim := { program := "ytnpbldjbfkpbcaa", sum := "a36c4e2857b0baa05e09395edd998241a3dbc8894fb6a480ffc83c14d52794d8", func := "loop.example/g00192/laws.FnDefAt", spec := "fnDefAt", unfollowed := true, recurses := true, apart := false, narrowed := true }
def FnDefAtUptoSaid : Prop := fnDefAtUptoRow.holds Try.pinned (OpenSpec.upto fnDefAtSpec)

/-- 'laws.FnExactDoms', WHERE WHAT IT READS IS OF BULK AT MOST 1048576: true; the input reads as it did. -/
def fnExactDomsUptoRow : OpenClaim := { program := "ytnpbldjbfkpbcaa", sum := "a36c4e2857b0baa05e09395edd998241a3dbc8894fb6a480ffc83c14d52794d8", func := "loop.example/g00192/laws.FnExactDoms", spec := "fnExactDoms", unfollowed := true, recurses := true, apart := false, narrowed := true }
def FnExactDomsUptoSaid : Prop := fnExactDomsUptoRow.holds Try.pinned (OpenSpec.upto fnExactDomsSpec)

end Rows
end Go.Proofs.Ytnpbldjbfkpbcaa
