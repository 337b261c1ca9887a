import Derived.Test.YtgdfgnppeekfjaaGreatP4
import Derived.Test.YtgdfgnppeekfjaaGreatP2
section
/- What a program tells with more fuel, with more to read; the way it goes. Plain. No conditions. -/
namespace Go.Proofs.YtgdfgnppeekfjaaGreat.Vm
set_option linter.unusedSimpArgs false
set_option linter.unusedVariables false

/-! ### More fuel -/
theorem runW_bad {f : FnR} {reads : List Int} {x : Int} (h : ¬ (shapeB f = true ∧ 0 ≤ x)) : runW f reads x = (3, 0, ⟨[], [], [], [], []⟩) := by unfold runW; rw [if_neg h]
/-! ### More to read -/
def MoreR (s t : RunS) : Prop := t.vals = s.vals ∧ t.cells = s.cells ∧ t.told = s.told ∧ t.path = s.path ∧ ∃ k, t.reads = s.reads ++ List.replicate k 0
theorem MoreR.get {s t : RunS} (h : MoreR s t) (v : Int) : t.get v = s.get v := by unfold RunS.get; rw [h.1]
theorem MoreR.put {s t : RunS} (h : MoreR s t) (d x : Int) : MoreR (s.put d x) (t.put d x) := by
  obtain ⟨a, b, c, e, k, hk⟩ := h
  exact ⟨by simp [RunS.put, a], b, c, e, k, hk⟩
/-! ### The way -/
def Way (bs : List BlkR) (p : List Int) : Prop := (∀ x ∈ p, 0 ≤ x ∧ x < bs.length) ∧ ∀ i (h : i + 1 < p.length), p[i + 1] ∈ succsAt bs (p[i]'(by omega)).toNat
theorem Way.one {bs : List BlkR} {b : Nat} (hb : b < bs.length) : Way bs [(b : Int)] := ⟨fun x hx => by simp at hx; omega, fun i h => by simp at h⟩
theorem Way.cons {bs : List BlkR} {b : Nat} {c : Int} {p : List Int} (hb : b < bs.length) (hc : c ∈ succsAt bs b) (h : Way bs (c :: p)) : Way bs ((b : Int) :: c :: p) := by
  refine ⟨fun x hx => ?_, fun i hi => ?_⟩
  · rcases List.mem_cons.1 hx with rfl | hx
    · omega
    · exact h.1 x hx
  · cases i with
    | zero => simpa using hc
    | succ i => exact h.2 i (by simpa using hi)
end Go.Proofs.YtgdfgnppeekfjaaGreat.Vm
end
