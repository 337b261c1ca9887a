import Derived.Test.YtnapgdlfeadhaaaP4
import Derived.Test.YtnapgdlfeadhaaaP1
import Derived.Test.YtnapgdlfeadhaaaP2
section
/- The laws of Run and Path: as the specification, and nobody's memory but its own. No conditions. -/
namespace Go.Proofs.Ytnapgdlfeadhaaa.Vm
open Go.RowKit (wrap64)
set_option linter.unusedSimpArgs false
set_option linter.unusedVariables false

/-! ### How much is told -/
/-! ### Marks -/
def OwnG (Y : Hp) (w : CV) (n : Nat) (cells : List CV) : Prop := (w = .ns ∧ n = 0 ∧ cells = []) ∨ ∃ id g, w = .sl id g 0 n ∧ rdOb Y id g = some ⟨cells, g, true, 1⟩ ∧ cells.length = n
theorem OwnG.isI {Y : Hp} {w : CV} {xs : List Int} {n : Nat} (h : OwnG Y w n (xs.map .i)) : IsI Y w xs := by
  rcases h with ⟨rfl, rfl, h⟩ | ⟨id, g, rfl, h, hl⟩
  · have : xs = [] := by simpa using h
    subst this; exact IsI.ns _
  · exact own_isI h (by simpa using hl)
theorem OwnG.keep {Y Z : Hp} {w : CV} {n : Nat} {cells : List CV} (h : OwnG Y w n cells) (hk : ∀ id g o, IsOut w id → rdOb Y id g = some o → rdOb Z id g = some o) : OwnG Z w n cells := by
  rcases h with h | ⟨id, g, rfl, h, hl⟩
  · exact .inl h
  · exact .inr ⟨id, g, rfl, hk _ _ _ ⟨_, _, rfl⟩ h, hl⟩
theorem RowRes.lo {H : Hp} {w : CV} {L : Hp} {xs : List Int} (h : RowRes H w L xs) : ∀ id, IsOut w id → H.length ≤ id := by
  rintro id ⟨g, n, e⟩
  rcases h with ⟨rfl, _, rfl⟩ | ⟨rfl, rfl⟩
  · cases e
  · cases e; exact Nat.le_refl _
end Go.Proofs.Ytnapgdlfeadhaaa.Vm
end
