import Derived.Test.YtnapgdlfeadhaaaQrp
section
/- The law of the way of drawn runs. No conditions. -/
namespace Go.Proofs.Ytnapgdlfeadhaaa.Vm
open Go.RowKit (wrap64)
set_option linter.unusedSimpArgs false
set_option linter.unusedVariables false

end Go.Proofs.Ytnapgdlfeadhaaa.Vm
end
