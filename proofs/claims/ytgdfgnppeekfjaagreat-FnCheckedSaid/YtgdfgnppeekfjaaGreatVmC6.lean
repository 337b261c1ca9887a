/- The ideal machine's code for some of the program's functions, each checked against the translated one. No conditions. -/
import Derived.Test.YtgdfgnppeekfjaaGreatChecked
import Derived.Test.YtgdfgnppeekfjaaGreatVmQ
import Derived.Test.YtgdfgnppeekfjaaGreatVmC
namespace Go.Proofs.YtgdfgnppeekfjaaGreat.Vm
set_option linter.unusedVariables false
set_option maxRecDepth 100000
end Go.Proofs.YtgdfgnppeekfjaaGreat.Vm
