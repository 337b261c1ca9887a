import Derived.Test.YtgdfgnppeekfjaaGreatP2
section
/- Who stands just above, both sides. No conditions. -/
namespace Go.Proofs.YtgdfgnppeekfjaaGreat.Vm
open Go.RowKit (wrap64)
set_option linter.unusedSimpArgs false
set_option linter.unusedVariables false
theorem domF_mem {bs : List BlkR} {b : Nat} {x : Int} (h : x ∈ domF bs b) : ∃ a : Nat, a < bs.length ∧ x = a ∧ domB bs b a = true := by
  unfold domF domTo at h
  rw [List.mem_map] at h
  obtain ⟨a, ha, rfl⟩ := h
  rw [List.mem_filter, List.mem_range] at ha
  exact ⟨a, ha.1, rfl, ha.2⟩
theorem mem_domF {bs : List BlkR} {b a : Nat} (ha : a < bs.length) (h : domB bs b a = true) : (a : Int) ∈ domF bs b := by
  unfold domF domTo
  rw [List.mem_map]
  exact ⟨a, by rw [List.mem_filter, List.mem_range]; exact ⟨ha, h⟩, rfl⟩
theorem domB_of_mem {bs : List BlkR} {b a : Nat} (h : (a : Int) ∈ domF bs b) : domB bs b a = true := by
  obtain ⟨c, _, e, hc⟩ := domF_mem h
  have : a = c := by omega
  subst this; exact hc
end Go.Proofs.YtgdfgnppeekfjaaGreat.Vm
end
