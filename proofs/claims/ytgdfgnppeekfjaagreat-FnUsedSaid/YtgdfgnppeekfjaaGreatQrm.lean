import Derived.Test.YtgdfgnppeekfjaaGreatP4
import Derived.Test.YtgdfgnppeekfjaaGreatQgn
section
/- Drawn programs with what they read, and fuel. No conditions. -/
namespace Go.Proofs.YtgdfgnppeekfjaaGreat.Vm
open Go.RowKit (wrap64)
set_option linter.unusedSimpArgs false
set_option linter.unusedVariables false

def FuelRes (X : Hp) (c : Nat) (r : IV × Hp) : Prop := ∃ n Z, r = (.c (.i n), Z) ∧ CurL c X Z ∧ -1 ≤ n ∧ n ≤ 5001
theorem FuelRes.mk' {X Z : Hp} {c : Nat} {n : Int} (h : CurL c X Z) (hx : Cur X c) (h1 : -1 ≤ n) (h2 : n ≤ 5001) : FuelRes X c (gcRet X (.c (.i n)) Z) := by
  obtain ⟨Z', e, hC⟩ := CurL.gc h hx (r := .c (.i n)) rfl
  rw [e]; exact ⟨n, Z', rfl, hC, h1, h2⟩
theorem HiBlocks.to {lo : Nat} {X Y : Hp} {v : CV} {bs : List BlkR} (h : HiBlocks lo X v bs) (hh : Hi lo X Y) : HiBlocks lo Y v bs := fun Z hZ => h Z (hh.trans hZ (Nat.le_refl _))
end Go.Proofs.YtgdfgnppeekfjaaGreat.Vm
end
