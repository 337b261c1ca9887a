import Derived.Test.YtnapgdlfeadhaaaP4
import Derived.Test.YtnapgdlfeadhaaaQgn
section
/- Drawn programs with what they read, and fuel. No conditions. -/
namespace Go.Proofs.Ytnapgdlfeadhaaa.Vm
open Go.RowKit (wrap64)
set_option linter.unusedSimpArgs false
set_option linter.unusedVariables false

theorem HiBlocks.lower {lo lo' : Nat} {X : Hp} {v : CV} {bs : List BlkR} (h : HiBlocks lo X v bs) (hl : lo' ≤ lo) : HiBlocks lo' X v bs := fun Y hY => h Y fun id g o hi ho => hY id g o (by omega) ho
theorem HiBlocks.to {lo : Nat} {X Y : Hp} {v : CV} {bs : List BlkR} (h : HiBlocks lo X v bs) (hh : Hi lo X Y) : HiBlocks lo Y v bs := fun Z hZ => h Z (hh.trans hZ (Nat.le_refl _))
end Go.Proofs.Ytnapgdlfeadhaaa.Vm
end
