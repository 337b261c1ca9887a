import Derived.Test.YtgdfgnppeekfjaaGreatQgn
import Derived.Test.YtgdfgnppeekfjaaGreatQfe
import Derived.Test.YtgdfgnppeekfjaaGreatQze
section
/- A drawn program; who stands on every way to whom, as the law asks. No conditions. -/
namespace Go.Proofs.YtgdfgnppeekfjaaGreat.Vm
open Go.RowKit (wrap64)
set_option linter.unusedSimpArgs false
set_option linter.unusedVariables false
/-! ### The plain law -/
theorem hasI_dom {bs : List BlkR} (hin : InRange bs) {a b : Nat} (ha : a < bs.length) (hb : b < bs.length) : hasI (domF bs b) a = true ↔ Dom bs a b := by
  rw [hasI_iff, ← domB_iff hin ha hb]
  exact ⟨domB_of_mem, mem_domF ha⟩
/-! ### The law -/
end Go.Proofs.YtgdfgnppeekfjaaGreat.Vm
end
