import Derived.Test.YtgdfgnppeekfjaaGreatQfd
section
/- Who stands on every way to whom: the law, exactly. No conditions. -/
namespace Go.Proofs.YtgdfgnppeekfjaaGreat.Vm
open Go.RowKit (wrap64)
set_option linter.unusedSimpArgs false
set_option linter.unusedVariables false
def OwnRows (lo : Nat) (w : CV) (n : Nat) (g : Nat → List Int) (X : Hp) : Prop := (w = .ns ∧ n = 0) ∨ ∃ d, w = .sl d 0 0 n ∧ DInv (fun id => id < lo) d n g X
theorem DInv.keepHi {lo d n : Nat} {f : Nat → List Int} {Y Z : Hp} (h : DInv (fun id => id < lo) d n f Y) (hl : Y.length ≤ Z.length) (hk : ∀ id g o, lo ≤ id → rdOb Y id g = some o → rdOb Z id g = some o) : DInv (fun id => id < lo) d n f Z := by
  obtain ⟨h1, cells, h2, h3, h4⟩ := h
  have hd : lo ≤ d := by
    by_cases hlt : d < lo
    · exact absurd rfl (h1 d hlt).1
    · omega
  refine ⟨fun id hi => ⟨(h1 id hi).1, by have := (h1 id hi).2; omega⟩, cells, hk _ _ _ hd h2, h3, fun b hb => ?_⟩
  obtain ⟨c, a1, a2, a3, a4⟩ := h4 b hb
  exact ⟨c, a1, a2.keep fun id g o hi ho => hk _ _ _ (by have := (a3 id hi).1; omega) ho, a3, a4⟩
theorem OwnRows.keep {lo : Nat} {w : CV} {n : Nat} {g : Nat → List Int} {Y Z : Hp} (h : OwnRows lo w n g Y) (hl : Y.length ≤ Z.length) (hk : ∀ id g o, lo ≤ id → rdOb Y id g = some o → rdOb Z id g = some o) : OwnRows lo w n g Z := by
  rcases h with h | ⟨d, rfl, h⟩
  · exact .inl h
  · exact .inr ⟨d, rfl, h.keepHi hl hk⟩
end Go.Proofs.YtgdfgnppeekfjaaGreat.Vm
end
