/- The law of InsDef on the ideal machine. No conditions. -/
import Derived.Test.YtlhhmlldcpafiaaCc
namespace Go.Proofs.Ytlhhmlldcpafiaa.Vm
open Go.RowKit (wrap64)
set_option linter.unusedSimpArgs false
set_option linter.unusedVariables false

theorem toIns_call (H : Hp) (a b c d e : Int) : call M noX 28 [.agg [.i a, .i b, .i c, .i d, .i e]] H = some (.agg [.i a, .i b, .i c, .i d, .i e], H) := by
  refine call_ofG (vf := vf28) rfl dr28 ?_
  simp [vf28, vf28v, putAt]
  exact gc_flat H _ rfl

theorem specInsDef_call (H : Hp) (a b c d e : Int) : call M noX 27 [.agg [.i a, .i b, .i c, .i d, .i e]] H = some (.c (.i (if makesF a = true then b else -1)), H) := by
  refine call_ofG (vf := vf27) rfl dr27 ?_
  cases h : makesF a <;> simp [vf27, vf27v, l2Makes_call, h]

theorem implInsDef_call (H : Hp) (a b c d e : Int) : call M noX 29 [.agg [.i a, .i b, .i c, .i d, .i e]] H = some (.c (.i (if makesF a = true then b else -1)), H) := by
  refine call_ofG (vf := vf29) rfl dr29 ?_
  cases h : makesF a <;> simp [vf29, vf29v, has_call, hasD, h]

theorem law_InsDef (H : Hp) (a b c d e : Int) : ∃ H', call M noX 8 [.agg [.i a, .i b, .i c, .i d, .i e]] H = some (.c (.b true), H') := by
  refine ⟨H, call_ofG (vf := vf8) rfl dr8 ?_⟩
  simp [vf8, vf8v, toIns_call, specInsDef_call, implInsDef_call]

end Go.Proofs.Ytlhhmlldcpafiaa.Vm
