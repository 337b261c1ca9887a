import Derived.Test.YtgdfgnppeekfjaaGreatP5
section
/- What is well is made once, plain. No conditions. -/
namespace Go.Proofs.YtgdfgnppeekfjaaGreat.Vm
open Go.RowKit (wrap64)
set_option linter.unusedSimpArgs false
set_option linter.unusedVariables false
theorem check_well {f : FnR} (h : checkF f = 0) : shapeB f = true ∧ cf (seenF f.blocks) = 0 ∧ (predsF f.blocks 0).length = 0 ∧ ((madeF f).any fun n => decide (1 < n)) = false ∧ TakenOk f.blocks := by
  unfold checkF checkW at h
  by_cases h1 : shapeB f = true ∧ copiesB f.blocks = false
  · rw [if_pos h1] at h
    by_cases h2 : 0 < cf (seenF f.blocks)
    · simp [h2] at h
    · by_cases h3 : 0 < phis0 f.blocks ∨ 0 < (predsF f.blocks 0).length
      · simp [h2, h3] at h
      · by_cases h4 : ArmsRight f.blocks
        · cases h5 : (madeF f).any fun n => decide (1 < n) with
          | true => simp [h2, h3, pB_true h4, h5] at h
          | false =>
            by_cases h6 : TakenOk f.blocks
            · exact ⟨h1.1, by omega, by omega, rfl, h6⟩
            · simp [h2, h3, pB_true h4, h5, pB_false h6] at h
        · simp [h2, h3, pB_false h4] at h
  · rw [if_neg h1] at h; simp at h
end Go.Proofs.YtgdfgnppeekfjaaGreat.Vm
end
