import Derived.Test.YtnapgdlfeadhaaaP4
import Derived.Test.YtnapgdlfeadhaaaP1
import Derived.Test.YtnapgdlfeadhaaaP2
section
/- The laws of Run and Path: as the specification, and nobody's memory but its own. No conditions. -/
namespace Go.Proofs.Ytnapgdlfeadhaaa.Vm
open Go.RowKit (wrap64)
set_option linter.unusedSimpArgs false
set_option linter.unusedVariables false

/-! ### How much is told -/
theorem runGo_told (bs : List BlkR) : ∀ (n φ b : Nat) (fr : Int) (s : RunS), (runGo bs n φ b fr s).2.2.told.length ≤ s.told.length + φ ∧ (runGo bs n φ b fr s).2.2.path.length ≤ s.path.length + φ + 1 := by
  intro n
  induction n with
  | zero => intro φ b fr s; exact ⟨Nat.le_add_right _ _, by simp only [runGo]; omega⟩
  | succ n ih =>
    intro φ b fr s
    simp only [runGo]
    have h1 := listGo_told (bs.getD b blk0).list φ (comeGo b fr (bs.getD b blk0).phis s)
    have h2 : (comeGo b fr (bs.getD b blk0).phis s).told = s.told := rfl
    have h3 : (comeGo b fr (bs.getD b blk0).phis s).path.length = s.path.length + 1 := by simp [comeGo]
    generalize comeGo b fr (bs.getD b blk0).phis s = s1 at *
    have h4 := listGo_fuel (bs.getD b blk0).list φ s1
    generalize listGo (bs.getD b blk0).list φ s1 = r at *
    have h5 : r.2.2.path.length = s.path.length + 1 := by rw [h1.2]; exact h3
    rw [h2] at h1
    split
    · split
      · exact ⟨by simp only; omega, by simp only; omega⟩
      · split
        · exact ⟨by simp only; omega, by simp only; omega⟩
        · have := ih (r.2.1 - 1) (nextGo (bs.getD b blk0).term r.2.2).toNat (b : Int) r.2.2
          omega
    · exact ⟨by simp only; omega, by simp only; omega⟩
theorem runW_told (f : FnR) (reads : List Int) (fuel : Int) : (runW f reads fuel).2.2.told.length ≤ BIG ∧ (runW f reads fuel).2.2.path.length ≤ BIG := by
  unfold runW
  split
  · have := runGo_told f.blocks ((min fuel 5000).toNat + 1) (min fuel 5000).toNat 0 (-1) (initS f.values reads)
    simp only [initS, List.length_nil] at this ⊢
    simp only [BIG]
    omega
  · simp [BIG]

/-! ### Marks -/
def OwnG (Y : Hp) (w : CV) (n : Nat) (cells : List CV) : Prop := (w = .ns ∧ n = 0 ∧ cells = []) ∨ ∃ id g, w = .sl id g 0 n ∧ rdOb Y id g = some ⟨cells, g, true, 1⟩ ∧ cells.length = n
theorem OwnG.isI {Y : Hp} {w : CV} {xs : List Int} {n : Nat} (h : OwnG Y w n (xs.map .i)) : IsI Y w xs := by
  rcases h with ⟨rfl, rfl, h⟩ | ⟨id, g, rfl, h, hl⟩
  · have : xs = [] := by simpa using h
    subst this; exact IsI.ns _
  · exact own_isI h (by simpa using hl)
theorem OwnG.keep {Y Z : Hp} {w : CV} {n : Nat} {cells : List CV} (h : OwnG Y w n cells) (hk : ∀ id g o, IsOut w id → rdOb Y id g = some o → rdOb Z id g = some o) : OwnG Z w n cells := by
  rcases h with h | ⟨id, g, rfl, h, hl⟩
  · exact .inl h
  · exact .inr ⟨id, g, rfl, hk _ _ _ ⟨_, _, rfl⟩ h, hl⟩
theorem RowRes.lo {H : Hp} {w : CV} {L : Hp} {xs : List Int} (h : RowRes H w L xs) : ∀ id, IsOut w id → H.length ≤ id := by
  rintro id ⟨g, n, e⟩
  rcases h with ⟨rfl, _, rfl⟩ | ⟨rfl, rfl⟩
  · cases e
  · cases e; exact Nat.le_refl _
end Go.Proofs.Ytnapgdlfeadhaaa.Vm
end
