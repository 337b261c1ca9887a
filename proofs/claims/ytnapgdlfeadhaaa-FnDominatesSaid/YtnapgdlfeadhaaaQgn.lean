import Derived.Test.YtnapgdlfeadhaaaP3
import Derived.Test.YtnapgdlfeadhaaaP1
section
/- Drawn programs: handed out. Where a value is made: the law. No conditions. -/
namespace Go.Proofs.Ytnapgdlfeadhaaa.Vm
open Go.RowKit (wrap64)
set_option linter.unusedSimpArgs false
set_option linter.unusedVariables false

theorem putD0' (a b x y : CV) : putAt [a, b] 0 [x, y] = [x, y] := by simp [putAt]
end Go.Proofs.Ytnapgdlfeadhaaa.Vm
end
