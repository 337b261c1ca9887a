import Derived.Test.YtnapgdlfeadhaaaQrr
section
/- The laws of who follows whom, and of the order. No conditions. -/
namespace Go.Proofs.Ytnapgdlfeadhaaa.Vm
open Go.RowKit (wrap64)
set_option linter.unusedSimpArgs false
set_option linter.unusedVariables false

end Go.Proofs.Ytnapgdlfeadhaaa.Vm
end
