import Derived.Test.YtnapgdlfeadhaaaQrn
import Derived.Test.YtnapgdlfeadhaaaQro
import Derived.Test.YtnapgdlfeadhaaaQrl
import Derived.Test.YtnapgdlfeadhaaaQgo
section
/- The laws of drawn runs: fuel, what is read, the way. No conditions. -/
namespace Go.Proofs.Ytnapgdlfeadhaaa.Vm
open Go.RowKit (wrap64)
set_option linter.unusedSimpArgs false
set_option linter.unusedVariables false

end Go.Proofs.Ytnapgdlfeadhaaa.Vm
end
