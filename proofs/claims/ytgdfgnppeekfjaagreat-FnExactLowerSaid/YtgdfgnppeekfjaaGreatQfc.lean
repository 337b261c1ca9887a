import Derived.Test.YtgdfgnppeekfjaaGreatP2
section
/- Rows copied, one behind the other, and at once: exactly. Two rows marked, apart. No conditions. -/
namespace Go.Proofs.YtgdfgnppeekfjaaGreat.Vm
open Go.RowKit (wrap64)
set_option linter.unusedSimpArgs false
set_option linter.unusedVariables false
end Go.Proofs.YtgdfgnppeekfjaaGreat.Vm
end
