/-
  No cell of these rows narrows 'for every input' (looked for: loops, veiled, ifaces, maps, wideKeys, modest, calm, conditions, laid).
  DERIVED. THE GIVEN ROWS OF THIS SEAT. 12 by the template 'for every input the law returns true; each argument reads behind the call as it read before'; 0 by the template 'total and deterministic' (their statements: YtlhhmlldcpafiaaTotals.lean).
  GIVEN WITH THE SEED: the statements are not yours to turn. If you find one false, say at which input.
  Laid BY PROGRAM, IN A SANDBOX (cutbox-rows.mjs): the forced cells as the released guide's own fill.sh prints them over the translation f808ea9a6db7586a… (all of the seat's roots in one cut). By AI agents, Wed Nov 11 2026. No macro, syntax, notation, axiom, sorry.
-/
import Derived.Test.YtlhhmlldcpafiaaChecked
import GoSem.Claim
import GoSem.ClaimJoined
import GoSem.ClaimMapViews
import Derived.JoinedTies
import Derived.KernelRfl
namespace Go.Proofs.Ytlhhmlldcpafiaa
/- THE CELL 'sum', in the pinned program and in every row, IS THE sha256 OF THE DUMP (.gsa) THAT YtlhhmlldcpafiaaProg.lean LOADS. Nothing in Lean hashes anything: it is a label: what it is worth is what the hold of that sum in a sandbox is worth. -/
noncomputable def Try.pinned : Pinned := { name := "ytlhhmlldcpafiaa", sum := "f808ea9a6db7586a05363c692560a36180b5246777e9196630d4f8a1935c75b0", checked := Try.checked }
namespace Rows
def none {H : Type} : Left H := { results := [], args := [] }

/-- 'laws.FnExactConstants': WHATEVER THE INPUT: true; the input reads as it did. -/
def fnExactConstantsSpec : ChangeSpec := { name := "fnExactConstants", fn := fun _ => fun
  | [] => { results := [.lit (.bool true)], args := [] }
  | _ => none }
def fnExactConstantsRow : OpenClaim := { program := "ytlhhmlldcpafiaa", sum := "f808ea9a6db7586a05363c692560a36180b5246777e9196630d4f8a1935c75b0", func := "loop.example/g00192/laws.FnExactConstants", spec := "fnExactConstants", apart := false }
def FnExactConstantsSaid : Prop := fnExactConstantsRow.holds Try.pinned (OpenSpec.ofChange fnExactConstantsSpec)

/-- ITS FALSE NEIGHBOUR: 'it returns false'. Refute it at one input. -/
def fnExactConstantsWrong : ChangeSpec := { name := "fnExactConstants", fn := fun _ => fun
  | [] => { results := [.lit (.bool false)], args := [] }
  | _ => none }
def FnExactConstantsWrongFalsely : Prop := fnExactConstantsRow.holds Try.pinned (OpenSpec.ofChange fnExactConstantsWrong)

/-- 'laws.FnExactWordOk': WHATEVER THE INPUT: true; the input reads as it did. -/
def fnExactWordOkSpec : ChangeSpec := { name := "fnExactWordOk", fn := fun _ => fun
  | [d] => { results := [.lit (.bool true)], args := [d] }
  | _ => none }
def fnExactWordOkRow : OpenClaim := { program := "ytlhhmlldcpafiaa", sum := "f808ea9a6db7586a05363c692560a36180b5246777e9196630d4f8a1935c75b0", func := "loop.example/g00192/laws.FnExactWordOk", spec := "fnExactWordOk", apart := false }
def FnExactWordOkSaid : Prop := fnExactWordOkRow.holds Try.pinned (OpenSpec.ofChange fnExactWordOkSpec)

/-- ITS FALSE NEIGHBOUR: 'it returns false'. Refute it at one input. -/
def fnExactWordOkWrong : ChangeSpec := { name := "fnExactWordOk", fn := fun _ => fun
  | [d] => { results := [.lit (.bool false)], args := [d] }
  | _ => none }
def FnExactWordOkWrongFalsely : Prop := fnExactWordOkRow.holds Try.pinned (OpenSpec.ofChange fnExactWordOkWrong)

/-- 'laws.FnExactWordName': WHATEVER THE INPUT: true; the input reads as it did. -/
def fnExactWordNameSpec : ChangeSpec := { name := "fnExactWordName", fn := fun _ => fun
  | [d] => { results := [.lit (.bool true)], args := [d] }
  | _ => none }
def fnExactWordNameRow : OpenClaim := { program := "ytlhhmlldcpafiaa", sum := "f808ea9a6db7586a05363c692560a36180b5246777e9196630d4f8a1935c75b0", func := "loop.example/g00192/laws.FnExactWordName", spec := "fnExactWordName", apart := false }
def FnExactWordNameSaid : Prop := fnExactWordNameRow.holds Try.pinned (OpenSpec.ofChange fnExactWordNameSpec)

/-- ITS FALSE NEIGHBOUR: 'it returns false'. Refute it at one input. -/
def fnExactWordNameWrong : ChangeSpec := { name := "fnExactWordName", fn := fun _ => fun
  | [d] => { results := [.lit (.bool false)], args := [d] }
  | _ => none }
def FnExactWordNameWrongFalsely : Prop := fnExactWordNameRow.holds Try.pinned (OpenSpec.ofChange fnExactWordNameWrong)

/-- 'laws.FnExactWordOf': WHATEVER THE INPUT: true; the input reads as it did. -/
def fnExactWordOfSpec : ChangeSpec := { name := "fnExactWordOf", fn := fun _ => fun
  | [d] => { results := [.lit (.bool true)], args := [d] }
  | _ => none }
def fnExactWordOfRow : OpenClaim := { program := "ytlhhmlldcpafiaa", sum := "f808ea9a6db7586a05363c692560a36180b5246777e9196630d4f8a1935c75b0", func := "loop.example/g00192/laws.FnExactWordOf", spec := "fnExactWordOf", apart := false }
def FnExactWordOfSaid : Prop := fnExactWordOfRow.holds Try.pinned (OpenSpec.ofChange fnExactWordOfSpec)

/-- ITS FALSE NEIGHBOUR: 'it returns false'. Refute it at one input. -/
def fnExactWordOfWrong : ChangeSpec := { name := "fnExactWordOf", fn := fun _ => fun
  | [d] => { results := [.lit (.bool false)], args := [d] }
  | _ => none }
def FnExactWordOfWrongFalsely : Prop := fnExactWordOfRow.holds Try.pinned (OpenSpec.ofChange fnExactWordOfWrong)

/-- 'laws.FnExactTermUses': WHATEVER THE INPUT: true; the input reads as it did. -/
def fnExactTermUsesSpec : ChangeSpec := { name := "fnExactTermUses", fn := fun _ => fun
  | [d] => { results := [.lit (.bool true)], args := [d] }
  | _ => none }
def fnExactTermUsesRow : OpenClaim := { program := "ytlhhmlldcpafiaa", sum := "f808ea9a6db7586a05363c692560a36180b5246777e9196630d4f8a1935c75b0", func := "loop.example/g00192/laws.FnExactTermUses", spec := "fnExactTermUses", apart := false }
def FnExactTermUsesSaid : Prop := fnExactTermUsesRow.holds Try.pinned (OpenSpec.ofChange fnExactTermUsesSpec)

/-- ITS FALSE NEIGHBOUR: 'it returns false'. Refute it at one input. -/
def fnExactTermUsesWrong : ChangeSpec := { name := "fnExactTermUses", fn := fun _ => fun
  | [d] => { results := [.lit (.bool false)], args := [d] }
  | _ => none }
def FnExactTermUsesWrongFalsely : Prop := fnExactTermUsesRow.holds Try.pinned (OpenSpec.ofChange fnExactTermUsesWrong)

/-- 'laws.FnExactInsDef': WHATEVER THE INPUT: true; the input reads as it did. -/
def fnExactInsDefSpec : ChangeSpec := { name := "fnExactInsDef", fn := fun _ => fun
  | [d] => { results := [.lit (.bool true)], args := [d] }
  | _ => none }
def fnExactInsDefRow : OpenClaim := { program := "ytlhhmlldcpafiaa", sum := "f808ea9a6db7586a05363c692560a36180b5246777e9196630d4f8a1935c75b0", func := "loop.example/g00192/laws.FnExactInsDef", spec := "fnExactInsDef", apart := false }
def FnExactInsDefSaid : Prop := fnExactInsDefRow.holds Try.pinned (OpenSpec.ofChange fnExactInsDefSpec)

/-- ITS FALSE NEIGHBOUR: 'it returns false'. Refute it at one input. -/
def fnExactInsDefWrong : ChangeSpec := { name := "fnExactInsDef", fn := fun _ => fun
  | [d] => { results := [.lit (.bool false)], args := [d] }
  | _ => none }
def FnExactInsDefWrongFalsely : Prop := fnExactInsDefRow.holds Try.pinned (OpenSpec.ofChange fnExactInsDefWrong)

/-- 'laws.FnMoves': WHATEVER THE INPUT: true; the input reads as it did. -/
def fnMovesSpec : ChangeSpec := { name := "fnMoves", fn := fun _ => fun
  | [d] => { results := [.lit (.bool true)], args := [d] }
  | _ => none }
def fnMovesRow : OpenClaim := { program := "ytlhhmlldcpafiaa", sum := "f808ea9a6db7586a05363c692560a36180b5246777e9196630d4f8a1935c75b0", func := "loop.example/g00192/laws.FnMoves", spec := "fnMoves", unfollowed := true, recurses := true, apart := false }
def FnMovesSaid : Prop := fnMovesRow.holds Try.pinned (OpenSpec.ofChange fnMovesSpec)

/-- ITS FALSE NEIGHBOUR: 'it returns false'. Refute it at one input. -/
def fnMovesWrong : ChangeSpec := { name := "fnMoves", fn := fun _ => fun
  | [d] => { results := [.lit (.bool false)], args := [d] }
  | _ => none }
def FnMovesWrongFalsely : Prop := fnMovesRow.holds Try.pinned (OpenSpec.ofChange fnMovesWrong)

/-- 'laws.FnExactWord': WHATEVER THE INPUT: true; the input reads as it did. -/
def fnExactWordSpec : ChangeSpec := { name := "fnExactWord", fn := fun _ => fun
  | [d1, d2, d3] => { results := [.lit (.bool true)], args := [d1, d2, d3] }
  | _ => none }
def fnExactWordRow : OpenClaim := { program := "ytlhhmlldcpafiaa", sum := "f808ea9a6db7586a05363c692560a36180b5246777e9196630d4f8a1935c75b0", func := "loop.example/g00192/laws.FnExactWord", spec := "fnExactWord", apart := false }
def FnExactWordSaid : Prop := fnExactWordRow.holds Try.pinned (OpenSpec.ofChange fnExactWordSpec)

/-- ITS FALSE NEIGHBOUR: 'it returns false'. Refute it at one input. -/
def fnExactWordWrong : ChangeSpec := { name := "fnExactWord", fn := fun _ => fun
  | [d1, d2, d3] => { results := [.lit (.bool false)], args := [d1, d2, d3] }
  | _ => none }
def FnExactWordWrongFalsely : Prop := fnExactWordRow.holds Try.pinned (OpenSpec.ofChange fnExactWordWrong)

/-- 'laws.FnExactMovesOk': WHATEVER THE INPUT: true; the input reads as it did. -/
def fnExactMovesOkSpec : ChangeSpec := { name := "fnExactMovesOk", fn := fun _ => fun
  | [d1, d2] => { results := [.lit (.bool true)], args := [d1, d2] }
  | _ => none }
def fnExactMovesOkRow : OpenClaim := { program := "ytlhhmlldcpafiaa", sum := "f808ea9a6db7586a05363c692560a36180b5246777e9196630d4f8a1935c75b0", func := "loop.example/g00192/laws.FnExactMovesOk", spec := "fnExactMovesOk", unfollowed := true, recurses := true, apart := false }
def FnExactMovesOkSaid : Prop := fnExactMovesOkRow.holds Try.pinned (OpenSpec.ofChange fnExactMovesOkSpec)

/-- ITS FALSE NEIGHBOUR: 'it returns false'. Refute it at one input. -/
def fnExactMovesOkWrong : ChangeSpec := { name := "fnExactMovesOk", fn := fun _ => fun
  | [d1, d2] => { results := [.lit (.bool false)], args := [d1, d2] }
  | _ => none }
def FnExactMovesOkWrongFalsely : Prop := fnExactMovesOkRow.holds Try.pinned (OpenSpec.ofChange fnExactMovesOkWrong)

/-- 'laws.FnWordNames': WHATEVER THE INPUT: true; the input reads as it did. -/
def fnWordNamesSpec : ChangeSpec := { name := "fnWordNames", fn := fun _ => fun
  | [d] => { results := [.lit (.bool true)], args := [d] }
  | _ => none }
def fnWordNamesRow : OpenClaim := { program := "ytlhhmlldcpafiaa", sum := "f808ea9a6db7586a05363c692560a36180b5246777e9196630d4f8a1935c75b0", func := "loop.example/g00192/laws.FnWordNames", spec := "fnWordNames", apart := false }
def FnWordNamesSaid : Prop := fnWordNamesRow.holds Try.pinned (OpenSpec.ofChange fnWordNamesSpec)

/-- ITS FALSE NEIGHBOUR: 'it returns false'. Refute it at one input. -/
def fnWordNamesWrong : ChangeSpec := { name := "fnWordNames", fn := fun _ => fun
  | [d] => { results := [.lit (.bool false)], args := [d] }
  | _ => none }
def FnWordNamesWrongFalsely : Prop := fnWordNamesRow.holds Try.pinned (OpenSpec.ofChange fnWordNamesWrong)

/-- 'laws.FnExactInsUses': WHATEVER THE INPUT: true; the input reads as it did. -/
def fnExactInsUsesSpec : ChangeSpec := { name := "fnExactInsUses", fn := fun _ => fun
  | [d] => { results := [.lit (.bool true)], args := [d] }
  | _ => none }
def fnExactInsUsesRow : OpenClaim := { program := "ytlhhmlldcpafiaa", sum := "f808ea9a6db7586a05363c692560a36180b5246777e9196630d4f8a1935c75b0", func := "loop.example/g00192/laws.FnExactInsUses", spec := "fnExactInsUses", apart := false }
def FnExactInsUsesSaid : Prop := fnExactInsUsesRow.holds Try.pinned (OpenSpec.ofChange fnExactInsUsesSpec)

/-- ITS FALSE NEIGHBOUR: 'it returns false'. Refute it at one input. -/
def fnExactInsUsesWrong : ChangeSpec := { name := "fnExactInsUses", fn := fun _ => fun
  | [d] => { results := [.lit (.bool false)], args := [d] }
  | _ => none }
def FnExactInsUsesWrongFalsely : Prop := fnExactInsUsesRow.holds Try.pinned (OpenSpec.ofChange fnExactInsUsesWrong)

/-- 'laws.FnShifts': WHATEVER THE INPUT: true; the input reads as it did. -/
def fnShiftsSpec : ChangeSpec := { name := "fnShifts", fn := fun _ => fun
  | [d] => { results := [.lit (.bool true)], args := [d] }
  | _ => none }
def fnShiftsRow : OpenClaim := { program := "ytlhhmlldcpafiaa", sum := "f808ea9a6db7586a05363c692560a36180b5246777e9196630d4f8a1935c75b0", func := "loop.example/g00192/laws.FnShifts", spec := "fnShifts", apart := false }
def FnShiftsSaid : Prop := fnShiftsRow.holds Try.pinned (OpenSpec.ofChange fnShiftsSpec)

/-- ITS FALSE NEIGHBOUR: 'it returns false'. Refute it at one input. -/
def fnShiftsWrong : ChangeSpec := { name := "fnShifts", fn := fun _ => fun
  | [d] => { results := [.lit (.bool false)], args := [d] }
  | _ => none }
def FnShiftsWrongFalsely : Prop := fnShiftsRow.holds Try.pinned (OpenSpec.ofChange fnShiftsWrong)

/- THE SECOND FORM. 'bulk': how many values and letters a reading holds, each counted each time it is reached (what is shared counts as often as it is met; a slice's spare places count too). A statement '..UptoSaid' is the law's where the arguments, and the package variables that the reading takes, are together of bulk at most 1048576: NARROWER than '..Said'. Prove '..Said' where nothing that the law and all that it calls make is longer than what came in: it says more and counts as full. Else prove '..UptoSaid'. A law counts once. -/
mutual
def uptoBulk {H : Type} : DataW H → Nat
  | .lit (.string bytes) => bytes.length + 1
  | .lit _ => 1
  | .nil => 1
  | .ptr d => uptoBulk d + 1
  | .slice elems spare => uptoBulkAll elems + uptoBulkAll spare + 1
  | .agg parts => uptoBulkAll parts + 1
  | .iface _ d => uptoBulk d + 1
  | .map entries => uptoBulkEntries entries + 1
  | .held _ => 1
def uptoBulkAll {H : Type} : List (DataW H) → Nat
  | [] => 0
  | d :: r => uptoBulk d + uptoBulkAll r
def uptoBulkEntries {H : Type} : List (Lit × DataW H) → Nat
  | [] => 0
  | x :: r => uptoBulkEntry x + uptoBulkEntries r
def uptoBulkEntry {H : Type} : Lit × DataW H → Nat
  | (.string bytes, d) => bytes.length + uptoBulk d + 1
  | (_, d) => uptoBulk d + 1
 end
def uptoSmall : (H : Type) → List (DataW H) → Bool := fun _ ds => decide (uptoBulkAll ds ≤ 1048576)
def OpenSpec.upto (s : _root_.Go.ChangeSpec) : _root_.Go.OpenSpec := { _root_.Go.OpenSpec.ofChange s with cond := some uptoSmall }

/-- 'laws.FnExactConstants', WHERE WHAT IT READS IS OF BULK AT MOST 1048576: true; the input reads as it did. -/
def fnExactConstantsUptoRow : OpenClaim := { program := "ytlhhmlldcpafiaa", sum := "f808ea9a6db7586a05363c692560a36180b5246777e9196630d4f8a1935c75b0", func := "loop.example/g00192/laws.FnExactConstants", spec := "fnExactConstants", apart := false, narrowed := true }
def FnExactConstantsUptoSaid : Prop := fnExactConstantsUptoRow.holds Try.pinned (OpenSpec.upto fnExactConstantsSpec)

/-- 'laws.FnExactWordOk', WHERE WHAT IT READS IS OF BULK AT MOST 1048576: true; the input reads as it did. -/
def fnExactWordOkUptoRow : OpenClaim := { program := "ytlhhmlldcpafiaa", sum := "f808ea9a6db7586a05363c692560a36180b5246777e9196630d4f8a1935c75b0", func := "loop.example/g00192/laws.FnExactWordOk", spec := "fnExactWordOk", apart := false, narrowed := true }
def FnExactWordOkUptoSaid : Prop := fnExactWordOkUptoRow.holds Try.pinned (OpenSpec.upto fnExactWordOkSpec)

/-- 'laws.FnExactWordName', WHERE WHAT IT READS IS OF BULK AT MOST 1048576: true; the input reads as it did. -/
def fnExactWordNameUptoRow : OpenClaim := { program := "ytlhhmlldcpafiaa", sum := "f808ea9a6db7586a05363c692560a36180b5246777e9196630d4f8a1935c75b0", func := "loop.example/g00192/laws.FnExactWordName", spec := "fnExactWordName", apart := false, narrowed := true }
def FnExactWordNameUptoSaid : Prop := fnExactWordNameUptoRow.holds Try.pinned (OpenSpec.upto fnExactWordNameSpec)

/-- 'laws.FnExactWordOf', WHERE WHAT IT READS IS OF BULK AT MOST 1048576: true; the input reads as it did. -/
def fnExactWordOfUptoRow : OpenClaim := { program := "ytlhhmlldcpafiaa", sum := "f808ea9a6db7586a05363c692560a36180b5246777e9196630d4f8a1935c75b0", func := "loop.example/g00192/laws.FnExactWordOf", spec := "fnExactWordOf", apart := false, narrowed := true }
def FnExactWordOfUptoSaid : Prop := fnExactWordOfUptoRow.holds Try.pinned (OpenSpec.upto fnExactWordOfSpec)

/-- 'laws.FnExactTermUses', WHERE WHAT IT READS IS OF BULK AT MOST 1048576: true; the input reads as it did. -/
def fnExactTermUsesUptoRow : OpenClaim := { program := "ytlhhmlldcpafiaa", sum := "f808ea9a6db7586a05363c692560a36180b5246777e9196630d4f8a1935c75b0", func := "loop.example/g00192/laws.FnExactTermUses", spec := "fnExactTermUses", apart := false, narrowed := true }
def FnExactTermUsesUptoSaid : Prop := fnExactTermUsesUptoRow.holds Try.pinned (OpenSpec.upto fnExactTermUsesSpec)

/-- 'laws.FnExactInsDef', WHERE WHAT IT READS IS OF BULK AT MOST 1048576: true; the input reads as it did. -/
def fnExactInsDefUptoRow : OpenClaim := { program := "ytlhhmlldcpafiaa", sum := "f808ea9a6db7586a05363c692560a36180b5246777e9196630d4f8a1935c75b0", func := "loop.example/g00192/laws.FnExactInsDef", spec := "fnExactInsDef", apart := false, narrowed := true }
def FnExactInsDefUptoSaid : Prop := fnExactInsDefUptoRow.holds Try.pinned (OpenSpec.upto fnExactInsDefSpec)

/-- 'laws.FnMoves', WHERE WHAT IT READS IS OF BULK AT MOST 1048576: true; the input reads as it did. -/
def fnMovesUptoRow : OpenClaim := { program := "ytlhhmlldcpafiaa", sum := "f808ea9a6db7586a05363c692560a36180b5246777e9196630d4f8a1935c75b0", func := "loop.example/g00192/laws.FnMoves", spec := "fnMoves", unfollowed := true, recurses := true, apart := false, narrowed := true }
def FnMovesUptoSaid : Prop := fnMovesUptoRow.holds Try.pinned (OpenSpec.upto fnMovesSpec)

/-- 'laws.FnExactWord', WHERE WHAT IT READS IS OF BULK AT MOST 1048576: true; the input reads as it did. -/
def fnExactWordUptoRow : OpenClaim := { program := "ytlhhmlldcpafiaa", sum := "f808ea9a6db7586a05363c692560a36180b5246777e9196630d4f8a1935c75b0", func := "loop.example/g00192/laws.FnExactWord", spec := "fnExactWord", apart := false, narrowed := true }
def FnExactWordUptoSaid : Prop := fnExactWordUptoRow.holds Try.pinned (OpenSpec.upto fnExactWordSpec)

/-- 'laws.FnExactMovesOk', WHERE WHAT IT READS IS OF BULK AT MOST 1048576: true; the input reads as it did. -/
def fnExactMovesOkUptoRow : OpenClaim := { program := "ytlhhmlldcpafiaa", sum := "f808ea9a6db7586a05363c692560a36180b5246777e9196630d4f8a1935c75b0", func := "loop.example/g00192/laws.FnExactMovesOk", spec := "fnExactMovesOk", unfollowed := true, recurses := true, apart := false, narrowed := true }
def FnExactMovesOkUptoSaid : Prop := fnExactMovesOkUptoRow.holds Try.pinned (OpenSpec.upto fnExactMovesOkSpec)

/-- 'laws.FnWordNames', WHERE WHAT IT READS IS OF BULK AT MOST 1048576: true; the input reads as it did. -/
def fnWordNamesUptoRow : OpenClaim := { program := "ytlhhmlldcpafiaa", sum := "f808ea9a6db7586a05363c692560a36180b5246777e9196630d4f8a1935c75b0", func := "loop.example/g00192/laws.FnWordNames", spec := "fnWordNames", apart := false, narrowed := true }
def FnWordNamesUptoSaid : Prop := fnWordNamesUptoRow.holds Try.pinned (OpenSpec.upto fnWordNamesSpec)

/-- 'laws.FnExactInsUses', WHERE WHAT IT READS IS OF BULK AT MOST 1048576: true; the input reads as it did. -/
def fnExactInsUsesUptoRow : OpenClaim := { program := "ytlhhmlldcpafiaa", sum := "f808ea9a6db7586a05363c692560a36180b5246777e9196630d4f8a1935c75b0", func := "loop.example/g00192/laws.FnExactInsUses", spec := "fnExactInsUses", apart := false, narrowed := true }
def FnExactInsUsesUptoSaid : Prop := fnExactInsUsesUptoRow.holds Try.pinned (OpenSpec.upto fnExactInsUsesSpec)

/-- 'laws.FnShifts', WHERE WHAT IT READS IS OF BULK AT MOST 1048576: true; the input reads as it did. -/
def fnShiftsUptoRow : OpenClaim := { program := "ytlhhmlldcpafiaa", sum := "f808ea9a6db7586a05363c692560a36180b5246777e9196630d4f8a1935c75b0", func := "loop.example/g00192/laws.FnShifts", spec := "fnShifts", apart := false, narrowed := true }
def FnShiftsUptoSaid : Prop := fnShiftsUptoRow.holds Try.pinned (OpenSpec.upto fnShiftsSpec)

end Rows
end Go.Proofs.Ytlhhmlldcpafiaa
