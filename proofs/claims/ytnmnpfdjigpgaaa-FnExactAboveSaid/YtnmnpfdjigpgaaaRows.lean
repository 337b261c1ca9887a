/-
  No cell of these rows narrows 'for every input' (looked for: loops, veiled, ifaces, maps, wideKeys, modest, calm, conditions, laid).
  DERIVED. THE GIVEN ROWS OF THIS SEAT. 12 by the template 'for every input the law returns true; each argument reads behind the call as it read before'; 0 by the template 'total and deterministic' (their statements: YtnmnpfdjigpgaaaTotals.lean).
  GIVEN WITH THE SEED: the statements are not yours to turn. If you find one false, say at which input.
  Laid BY PROGRAM, IN A SANDBOX (cutbox-rows.mjs): the forced cells as the released guide's own fill.sh prints them over the translation 6033d0f1c6b8e3dd… (all of the seat's roots in one cut). By AI agents, Wed Nov 11 2026. No macro, syntax, notation, axiom, sorry.
-/
import Derived.Test.YtnmnpfdjigpgaaaChecked
import GoSem.Claim
import GoSem.ClaimJoined
import GoSem.ClaimMapViews
import Derived.JoinedTies
import Derived.KernelRfl
namespace Go.Proofs.Ytnmnpfdjigpgaaa
/- THE CELL 'sum', in the pinned program and in every row, IS THE sha256 OF THE DUMP (.gsa) THAT YtnmnpfdjigpgaaaProg.lean LOADS. Nothing in Lean hashes anything: it is a label: what it is worth is what the hold of that sum in a sandbox is worth. -/
noncomputable def Try.pinned : Pinned := { name := "ytnmnpfdjigpgaaa", sum := "6033d0f1c6b8e3ddfe2a45b1772842a512a886795c4b036d4ec0670a563b8674", checked := Try.checked }
namespace Rows
def none {H : Type} : Left H := { results := [], args := [] }

/-- 'laws.FnExactMovesOk': WHATEVER THE INPUT: true; the input reads as it did. -/
def fnExactMovesOkSpec : ChangeSpec := { name := "fnExactMovesOk", fn := fun _ => fun
  | [d1, d2] => { results := [.lit (.bool true)], args := [d1, d2] }
  | _ => none }
def fnExactMovesOkRow : OpenClaim := { program := "ytnmnpfdjigpgaaa", sum := "6033d0f1c6b8e3ddfe2a45b1772842a512a886795c4b036d4ec0670a563b8674", func := "loop.example/g00192/laws.FnExactMovesOk", spec := "fnExactMovesOk", unfollowed := true, recurses := true, apart := false }
def FnExactMovesOkSaid : Prop := fnExactMovesOkRow.holds Try.pinned (OpenSpec.ofChange fnExactMovesOkSpec)

/-- ITS FALSE NEIGHBOUR: 'it returns false'. Refute it at one input. -/
def fnExactMovesOkWrong : ChangeSpec := { name := "fnExactMovesOk", fn := fun _ => fun
  | [d1, d2] => { results := [.lit (.bool false)], args := [d1, d2] }
  | _ => none }
def FnExactMovesOkWrongFalsely : Prop := fnExactMovesOkRow.holds Try.pinned (OpenSpec.ofChange fnExactMovesOkWrong)

/-- 'laws.FnExactShapeOk': WHATEVER THE INPUT: true; the input reads as it did. -/
def fnExactShapeOkSpec : ChangeSpec := { name := "fnExactShapeOk", fn := fun _ => fun
  | [d] => { results := [.lit (.bool true)], args := [d] }
  | _ => none }
def fnExactShapeOkRow : OpenClaim := { program := "ytnmnpfdjigpgaaa", sum := "6033d0f1c6b8e3ddfe2a45b1772842a512a886795c4b036d4ec0670a563b8674", func := "loop.example/g00192/laws.FnExactShapeOk", spec := "fnExactShapeOk", unfollowed := true, recurses := true, apart := false }
def FnExactShapeOkSaid : Prop := fnExactShapeOkRow.holds Try.pinned (OpenSpec.ofChange fnExactShapeOkSpec)

/-- ITS FALSE NEIGHBOUR: 'it returns false'. Refute it at one input. -/
def fnExactShapeOkWrong : ChangeSpec := { name := "fnExactShapeOk", fn := fun _ => fun
  | [d] => { results := [.lit (.bool false)], args := [d] }
  | _ => none }
def FnExactShapeOkWrongFalsely : Prop := fnExactShapeOkRow.holds Try.pinned (OpenSpec.ofChange fnExactShapeOkWrong)

/-- 'laws.FnExactPlainOk': WHATEVER THE INPUT: true; the input reads as it did. -/
def fnExactPlainOkSpec : ChangeSpec := { name := "fnExactPlainOk", fn := fun _ => fun
  | [d] => { results := [.lit (.bool true)], args := [d] }
  | _ => none }
def fnExactPlainOkRow : OpenClaim := { program := "ytnmnpfdjigpgaaa", sum := "6033d0f1c6b8e3ddfe2a45b1772842a512a886795c4b036d4ec0670a563b8674", func := "loop.example/g00192/laws.FnExactPlainOk", spec := "fnExactPlainOk", unfollowed := true, recurses := true, apart := false }
def FnExactPlainOkSaid : Prop := fnExactPlainOkRow.holds Try.pinned (OpenSpec.ofChange fnExactPlainOkSpec)

/-- ITS FALSE NEIGHBOUR: 'it returns false'. Refute it at one input. -/
def fnExactPlainOkWrong : ChangeSpec := { name := "fnExactPlainOk", fn := fun _ => fun
  | [d] => { results := [.lit (.bool false)], args := [d] }
  | _ => none }
def FnExactPlainOkWrongFalsely : Prop := fnExactPlainOkRow.holds Try.pinned (OpenSpec.ofChange fnExactPlainOkWrong)

/-- 'laws.FnExactCost': WHATEVER THE INPUT: true; the input reads as it did. -/
def fnExactCostSpec : ChangeSpec := { name := "fnExactCost", fn := fun _ => fun
  | [d] => { results := [.lit (.bool true)], args := [d] }
  | _ => none }
def fnExactCostRow : OpenClaim := { program := "ytnmnpfdjigpgaaa", sum := "6033d0f1c6b8e3ddfe2a45b1772842a512a886795c4b036d4ec0670a563b8674", func := "loop.example/g00192/laws.FnExactCost", spec := "fnExactCost", unfollowed := true, recurses := true, apart := false }
def FnExactCostSaid : Prop := fnExactCostRow.holds Try.pinned (OpenSpec.ofChange fnExactCostSpec)

/-- ITS FALSE NEIGHBOUR: 'it returns false'. Refute it at one input. -/
def fnExactCostWrong : ChangeSpec := { name := "fnExactCost", fn := fun _ => fun
  | [d] => { results := [.lit (.bool false)], args := [d] }
  | _ => none }
def FnExactCostWrongFalsely : Prop := fnExactCostRow.holds Try.pinned (OpenSpec.ofChange fnExactCostWrong)

/-- 'laws.FnExactDefAt': WHATEVER THE INPUT: true; the input reads as it did. -/
def fnExactDefAtSpec : ChangeSpec := { name := "fnExactDefAt", fn := fun _ => fun
  | [d1, d2] => { results := [.lit (.bool true)], args := [d1, d2] }
  | _ => none }
def fnExactDefAtRow : OpenClaim := { program := "ytnmnpfdjigpgaaa", sum := "6033d0f1c6b8e3ddfe2a45b1772842a512a886795c4b036d4ec0670a563b8674", func := "loop.example/g00192/laws.FnExactDefAt", spec := "fnExactDefAt", unfollowed := true, recurses := true, apart := false }
def FnExactDefAtSaid : Prop := fnExactDefAtRow.holds Try.pinned (OpenSpec.ofChange fnExactDefAtSpec)

/-- ITS FALSE NEIGHBOUR: 'it returns false'. Refute it at one input. -/
def fnExactDefAtWrong : ChangeSpec := { name := "fnExactDefAt", fn := fun _ => fun
  | [d1, d2] => { results := [.lit (.bool false)], args := [d1, d2] }
  | _ => none }
def FnExactDefAtWrongFalsely : Prop := fnExactDefAtRow.holds Try.pinned (OpenSpec.ofChange fnExactDefAtWrong)

/-- 'laws.FnExactSuccs': WHATEVER THE INPUT: true; the input reads as it did. -/
def fnExactSuccsSpec : ChangeSpec := { name := "fnExactSuccs", fn := fun _ => fun
  | [d1, d2] => { results := [.lit (.bool true)], args := [d1, d2] }
  | _ => none }
def fnExactSuccsRow : OpenClaim := { program := "ytnmnpfdjigpgaaa", sum := "6033d0f1c6b8e3ddfe2a45b1772842a512a886795c4b036d4ec0670a563b8674", func := "loop.example/g00192/laws.FnExactSuccs", spec := "fnExactSuccs", unfollowed := true, recurses := true, apart := false }
def FnExactSuccsSaid : Prop := fnExactSuccsRow.holds Try.pinned (OpenSpec.ofChange fnExactSuccsSpec)

/-- ITS FALSE NEIGHBOUR: 'it returns false'. Refute it at one input. -/
def fnExactSuccsWrong : ChangeSpec := { name := "fnExactSuccs", fn := fun _ => fun
  | [d1, d2] => { results := [.lit (.bool false)], args := [d1, d2] }
  | _ => none }
def FnExactSuccsWrongFalsely : Prop := fnExactSuccsRow.holds Try.pinned (OpenSpec.ofChange fnExactSuccsWrong)

/-- 'laws.FnExactPreds': WHATEVER THE INPUT: true; the input reads as it did. -/
def fnExactPredsSpec : ChangeSpec := { name := "fnExactPreds", fn := fun _ => fun
  | [d1, d2] => { results := [.lit (.bool true)], args := [d1, d2] }
  | _ => none }
def fnExactPredsRow : OpenClaim := { program := "ytnmnpfdjigpgaaa", sum := "6033d0f1c6b8e3ddfe2a45b1772842a512a886795c4b036d4ec0670a563b8674", func := "loop.example/g00192/laws.FnExactPreds", spec := "fnExactPreds", unfollowed := true, recurses := true, apart := false }
def FnExactPredsSaid : Prop := fnExactPredsRow.holds Try.pinned (OpenSpec.ofChange fnExactPredsSpec)

/-- ITS FALSE NEIGHBOUR: 'it returns false'. Refute it at one input. -/
def fnExactPredsWrong : ChangeSpec := { name := "fnExactPreds", fn := fun _ => fun
  | [d1, d2] => { results := [.lit (.bool false)], args := [d1, d2] }
  | _ => none }
def FnExactPredsWrongFalsely : Prop := fnExactPredsRow.holds Try.pinned (OpenSpec.ofChange fnExactPredsWrong)

/-- 'laws.FnExactDominates': WHATEVER THE INPUT: true; the input reads as it did. -/
def fnExactDominatesSpec : ChangeSpec := { name := "fnExactDominates", fn := fun _ => fun
  | [d1, d2, d3] => { results := [.lit (.bool true)], args := [d1, d2, d3] }
  | _ => none }
def fnExactDominatesRow : OpenClaim := { program := "ytnmnpfdjigpgaaa", sum := "6033d0f1c6b8e3ddfe2a45b1772842a512a886795c4b036d4ec0670a563b8674", func := "loop.example/g00192/laws.FnExactDominates", spec := "fnExactDominates", unfollowed := true, recurses := true, apart := false }
def FnExactDominatesSaid : Prop := fnExactDominatesRow.holds Try.pinned (OpenSpec.ofChange fnExactDominatesSpec)

/-- ITS FALSE NEIGHBOUR: 'it returns false'. Refute it at one input. -/
def fnExactDominatesWrong : ChangeSpec := { name := "fnExactDominates", fn := fun _ => fun
  | [d1, d2, d3] => { results := [.lit (.bool false)], args := [d1, d2, d3] }
  | _ => none }
def FnExactDominatesWrongFalsely : Prop := fnExactDominatesRow.holds Try.pinned (OpenSpec.ofChange fnExactDominatesWrong)

/-- 'laws.FnExactAbove': WHATEVER THE INPUT: true; the input reads as it did. -/
def fnExactAboveSpec : ChangeSpec := { name := "fnExactAbove", fn := fun _ => fun
  | [d1, d2] => { results := [.lit (.bool true)], args := [d1, d2] }
  | _ => none }
def fnExactAboveRow : OpenClaim := { program := "ytnmnpfdjigpgaaa", sum := "6033d0f1c6b8e3ddfe2a45b1772842a512a886795c4b036d4ec0670a563b8674", func := "loop.example/g00192/laws.FnExactAbove", spec := "fnExactAbove", unfollowed := true, recurses := true, apart := false }
def FnExactAboveSaid : Prop := fnExactAboveRow.holds Try.pinned (OpenSpec.ofChange fnExactAboveSpec)

/-- ITS FALSE NEIGHBOUR: 'it returns false'. Refute it at one input. -/
def fnExactAboveWrong : ChangeSpec := { name := "fnExactAbove", fn := fun _ => fun
  | [d1, d2] => { results := [.lit (.bool false)], args := [d1, d2] }
  | _ => none }
def FnExactAboveWrongFalsely : Prop := fnExactAboveRow.holds Try.pinned (OpenSpec.ofChange fnExactAboveWrong)

/-- 'laws.FnExactOrder': WHATEVER THE INPUT: true; the input reads as it did. -/
def fnExactOrderSpec : ChangeSpec := { name := "fnExactOrder", fn := fun _ => fun
  | [d] => { results := [.lit (.bool true)], args := [d] }
  | _ => none }
def fnExactOrderRow : OpenClaim := { program := "ytnmnpfdjigpgaaa", sum := "6033d0f1c6b8e3ddfe2a45b1772842a512a886795c4b036d4ec0670a563b8674", func := "loop.example/g00192/laws.FnExactOrder", spec := "fnExactOrder", unfollowed := true, recurses := true, apart := false }
def FnExactOrderSaid : Prop := fnExactOrderRow.holds Try.pinned (OpenSpec.ofChange fnExactOrderSpec)

/-- ITS FALSE NEIGHBOUR: 'it returns false'. Refute it at one input. -/
def fnExactOrderWrong : ChangeSpec := { name := "fnExactOrder", fn := fun _ => fun
  | [d] => { results := [.lit (.bool false)], args := [d] }
  | _ => none }
def FnExactOrderWrongFalsely : Prop := fnExactOrderRow.holds Try.pinned (OpenSpec.ofChange fnExactOrderWrong)

/-- 'laws.FnExactReached': WHATEVER THE INPUT: true; the input reads as it did. -/
def fnExactReachedSpec : ChangeSpec := { name := "fnExactReached", fn := fun _ => fun
  | [d] => { results := [.lit (.bool true)], args := [d] }
  | _ => none }
def fnExactReachedRow : OpenClaim := { program := "ytnmnpfdjigpgaaa", sum := "6033d0f1c6b8e3ddfe2a45b1772842a512a886795c4b036d4ec0670a563b8674", func := "loop.example/g00192/laws.FnExactReached", spec := "fnExactReached", unfollowed := true, recurses := true, apart := false }
def FnExactReachedSaid : Prop := fnExactReachedRow.holds Try.pinned (OpenSpec.ofChange fnExactReachedSpec)

/-- ITS FALSE NEIGHBOUR: 'it returns false'. Refute it at one input. -/
def fnExactReachedWrong : ChangeSpec := { name := "fnExactReached", fn := fun _ => fun
  | [d] => { results := [.lit (.bool false)], args := [d] }
  | _ => none }
def FnExactReachedWrongFalsely : Prop := fnExactReachedRow.holds Try.pinned (OpenSpec.ofChange fnExactReachedWrong)

/-- 'laws.FnExactCritical': WHATEVER THE INPUT: true; the input reads as it did. -/
def fnExactCriticalSpec : ChangeSpec := { name := "fnExactCritical", fn := fun _ => fun
  | [d] => { results := [.lit (.bool true)], args := [d] }
  | _ => none }
def fnExactCriticalRow : OpenClaim := { program := "ytnmnpfdjigpgaaa", sum := "6033d0f1c6b8e3ddfe2a45b1772842a512a886795c4b036d4ec0670a563b8674", func := "loop.example/g00192/laws.FnExactCritical", spec := "fnExactCritical", unfollowed := true, recurses := true, apart := false }
def FnExactCriticalSaid : Prop := fnExactCriticalRow.holds Try.pinned (OpenSpec.ofChange fnExactCriticalSpec)

/-- ITS FALSE NEIGHBOUR: 'it returns false'. Refute it at one input. -/
def fnExactCriticalWrong : ChangeSpec := { name := "fnExactCritical", fn := fun _ => fun
  | [d] => { results := [.lit (.bool false)], args := [d] }
  | _ => none }
def FnExactCriticalWrongFalsely : Prop := fnExactCriticalRow.holds Try.pinned (OpenSpec.ofChange fnExactCriticalWrong)

/- THE SECOND FORM. 'bulk': how many values and letters a reading holds, each counted each time it is reached (what is shared counts as often as it is met; a slice's spare places count too). A statement '..UptoSaid' is the law's where the arguments, and the package variables that the reading takes, are together of bulk at most 1048576: NARROWER than '..Said'. Prove '..Said' where nothing that the law and all that it calls make is longer than what came in: it says more and counts as full. Else prove '..UptoSaid'. A law counts once. -/
mutual
def uptoBulk {H : Type} : DataW H → Nat
  | .lit (.string bytes) => bytes.length + 1
  | .lit _ => 1
  | .nil => 1
  | .ptr d => uptoBulk d + 1
  | .slice elems spare => uptoBulkAll elems + uptoBulkAll spare + 1
  | .agg parts => uptoBulkAll parts + 1
  | .iface _ d => uptoBulk d + 1
  | .map entries => uptoBulkEntries entries + 1
  | .held _ => 1
def uptoBulkAll {H : Type} : List (DataW H) → Nat
  | [] => 0
  | d :: r => uptoBulk d + uptoBulkAll r
def uptoBulkEntries {H : Type} : List (Lit × DataW H) → Nat
  | [] => 0
  | x :: r => uptoBulkEntry x + uptoBulkEntries r
def uptoBulkEntry {H : Type} : Lit × DataW H → Nat
  | (.string bytes, d) => bytes.length + uptoBulk d + 1
  | (_, d) => uptoBulk d + 1
 end
def uptoSmall : (H : Type) → List (DataW H) → Bool := fun _ ds => decide (uptoBulkAll ds ≤ 1048576)
def OpenSpec.upto (s : _root_.Go.ChangeSpec) : _root_.Go.OpenSpec := { _root_.Go.OpenSpec.ofChange s with cond := some uptoSmall }

/-- 'laws.FnExactMovesOk', WHERE WHAT IT READS IS OF BULK AT MOST 1048576: true; the input reads as it did. -/
def fnExactMovesOkUptoRow : OpenClaim := { program := "ytnmnpfdjigpgaaa", sum := "6033d0f1c6b8e3ddfe2a45b1772842a512a886795c4b036d4ec0670a563b8674", func := "loop.example/g00192/laws.FnExactMovesOk", spec := "fnExactMovesOk", unfollowed := true, recurses := true, apart := false, narrowed := true }
def FnExactMovesOkUptoSaid : Prop := fnExactMovesOkUptoRow.holds Try.pinned (OpenSpec.upto fnExactMovesOkSpec)

/-- 'laws.FnExactShapeOk', WHERE WHAT IT READS IS OF BULK AT MOST 1048576: true; the input reads as it did. -/
def fnExactShapeOkUptoRow : OpenClaim := { program := "ytnmnpfdjigpgaaa", sum := "6033d0f1c6b8e3ddfe2a45b1772842a512a886795c4b036d4ec0670a563b8674", func := "loop.example/g00192/laws.FnExactShapeOk", spec := "fnExactShapeOk", unfollowed := true, recurses := true, apart := false, narrowed := true }
def FnExactShapeOkUptoSaid : Prop := fnExactShapeOkUptoRow.holds Try.pinned (OpenSpec.upto fnExactShapeOkSpec)

/-- 'laws.FnExactPlainOk', WHERE WHAT IT READS IS OF BULK AT MOST 1048576: true; the input reads as it did. -/
def fnExactPlainOkUptoRow : OpenClaim := { program := "ytnmnpfdjigpgaaa", sum := "6033d0f1c6b8e3ddfe2a45b1772842a512a886795c4b036d4ec0670a563b8674", func := "loop.example/g00192/laws.FnExactPlainOk", spec := "fnExactPlainOk", unfollowed := true, recurses := true, apart := false, narrowed := true }
def FnExactPlainOkUptoSaid : Prop := fnExactPlainOkUptoRow.holds Try.pinned (OpenSpec.upto fnExactPlainOkSpec)

/-- 'laws.FnExactCost', WHERE WHAT IT READS IS OF BULK AT MOST 1048576: true; the input reads as it did. -/
def fnExactCostUptoRow : OpenClaim := { program := "ytnmnpfdjigpgaaa", sum := "6033d0f1c6b8e3ddfe2a45b1772842a512a886795c4b036d4ec0670a563b8674", func := "loop.example/g00192/laws.FnExactCost", spec := "fnExactCost", unfollowed := true, recurses := true, apart := false, narrowed := true }
def FnExactCostUptoSaid : Prop := fnExactCostUptoRow.holds Try.pinned (OpenSpec.upto fnExactCostSpec)

/-- 'laws.FnExactDefAt', WHERE WHAT IT READS IS OF BULK AT MOST 1048576: true; the input reads as it did. -/
def fnExactDefAtUptoRow : OpenClaim := { program := "ytnmnpfdjigpgaaa", sum := "6033d0f1c6b8e3ddfe2a45b1772842a512a886795c4b036d4ec0670a563b8674", func := "loop.example/g00192/laws.FnExactDefAt", spec := "fnExactDefAt", unfollowed := true, recurses := true, apart := false, narrowed := true }
def FnExactDefAtUptoSaid : Prop := fnExactDefAtUptoRow.holds Try.pinned (OpenSpec.upto fnExactDefAtSpec)

/-- 'laws.FnExactSuccs', WHERE WHAT IT READS IS OF BULK AT MOST 1048576: true; the input reads as it did. -/
def fnExactSuccsUptoRow : OpenClaim := { program := "ytnmnpfdjigpgaaa", sum := "6033d0f1c6b8e3ddfe2a45b1772842a512a886795c4b036d4ec0670a563b8674", func := "loop.example/g00192/laws.FnExactSuccs", spec := "fnExactSuccs", unfollowed := true, recurses := true, apart := false, narrowed := true }
def FnExactSuccsUptoSaid : Prop := fnExactSuccsUptoRow.holds Try.pinned (OpenSpec.upto fnExactSuccsSpec)

/-- 'laws.FnExactPreds', WHERE WHAT IT READS IS OF BULK AT MOST 1048576: true; the input reads as it did. -/
def fnExactPredsUptoRow : OpenClaim := { program := "ytnmnpfdjigpgaaa", sum := "6033d0f1c6b8e3ddfe2a45b1772842a512a886795c4b036d4ec0670a563b8674", func := "loop.example/g00192/laws.FnExactPreds", spec := "fnExactPreds", unfollowed := true, recurses := true, apart := false, narrowed := true }
def FnExactPredsUptoSaid : Prop := fnExactPredsUptoRow.holds Try.pinned (OpenSpec.upto fnExactPredsSpec)

/-- 'laws.FnExactDominates', WHERE WHAT IT READS IS OF BULK AT MOST 1048576: true; the input reads as it did. -/
def fnExactDominatesUptoRow : OpenClaim := { program := "ytnmnpfdjigpgaaa", sum := "6033d0f1c6b8e3ddfe2a45b1772842a512a886795c4b036d4ec0670a563b8674", func := "loop.example/g00192/laws.FnExactDominates", spec := "fnExactDominates", unfollowed := true, recurses := true, apart := false, narrowed := true }
def FnExactDominatesUptoSaid : Prop := fnExactDominatesUptoRow.holds Try.pinned (OpenSpec.upto fnExactDominatesSpec)

/-- 'laws.FnExactAbove', WHERE WHAT IT READS IS OF BULK AT MOST 1048576: true; the input reads as it did. -/
def fnExactAboveUptoRow : OpenClaim := { program := "ytnmnpfdjigpgaaa", sum := "6033d0f1c6b8e3ddfe2a45b1772842a512a886795c4b036d4ec0670a563b8674", func := "loop.example/g00192/laws.FnExactAbove", spec := "fnExactAbove", unfollowed := true, recurses := true, apart := false, narrowed := true }
def FnExactAboveUptoSaid : Prop := fnExactAboveUptoRow.holds Try.pinned (OpenSpec.upto fnExactAboveSpec)

/-- 'laws.FnExactOrder', WHERE WHAT IT READS IS OF BULK AT MOST 1048576: true; the input reads as it did. -/
def fnExactOrderUptoRow : OpenClaim := { program := "ytnmnpfdjigpgaaa", sum := "6033d0f1c6b8e3ddfe2a45b1772842a512a886795c4b036d4ec0670a563b8674", func := "loop.example/g00192/laws.FnExactOrder", spec := "fnExactOrder", unfollowed := true, recurses := true, apart := false, narrowed := true }
def FnExactOrderUptoSaid : Prop := fnExactOrderUptoRow.holds Try.pinned (OpenSpec.upto fnExactOrderSpec)

/-- 'laws.FnExactReached', WHERE WHAT IT READS IS OF BULK AT MOST 1048576: true; the input reads as it did. -/
def fnExactReachedUptoRow : OpenClaim := { program := "ytnmnpfdjigpgaaa", sum := "6033d0f1c6b8e3ddfe2a45b1772842a512a886795c4b036d4ec0670a563b8674", func := "loop.example/g00192/laws.FnExactReached", spec := "fnExactReached", unfollowed := true, recurses := true, apart := false, narrowed := true }
def FnExactReachedUptoSaid : Prop := fnExactReachedUptoRow.holds Try.pinned (OpenSpec.upto fnExactReachedSpec)

/-- 'laws.FnExactCritical', WHERE WHAT IT READS IS OF BULK AT MOST 1048576: true; the input reads as it did. -/
def fnExactCriticalUptoRow : OpenClaim := { program := "ytnmnpfdjigpgaaa", sum := "6033d0f1c6b8e3ddfe2a45b1772842a512a886795c4b036d4ec0670a563b8674", func := "loop.example/g00192/laws.FnExactCritical", spec := "fnExactCritical", unfollowed := true, recurses := true, apart := false, narrowed := true }
def FnExactCriticalUptoSaid : Prop := fnExactCriticalUptoRow.holds Try.pinned (OpenSpec.upto fnExactCriticalSpec)

end Rows
end Go.Proofs.Ytnmnpfdjigpgaaa
