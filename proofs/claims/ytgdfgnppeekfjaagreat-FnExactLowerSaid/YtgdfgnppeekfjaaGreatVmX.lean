/- Regions whose orders are all taken: what holds whatever is done. No conditions. -/
import Derived.Test.YtgdfgnppeekfjaaGreatVmW
namespace Go.Proofs.YtgdfgnppeekfjaaGreat.Vm
set_option linter.unusedSimpArgs false
set_option linter.unusedVariables false
@[congr] theorem RunAllD_one {K : OrD} {ops : List VO} {Q : St → Prop} {n : Nat} {l : List Bool} {st st' : St} (h : st = st') : RunAllD K ops Q n l st = RunAllD K ops Q n l st' := by rw [h]
end Go.Proofs.YtgdfgnppeekfjaaGreat.Vm
