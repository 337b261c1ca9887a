/- slices.Sort does what the ideal machine says. No conditions. -/
import Derived.Test.YtgdfgnppeekfjaaGreatVmCw
import Derived.Test.YtgdfgnppeekfjaaGreatShelf
namespace Go.Proofs.YtgdfgnppeekfjaaGreat.Vm
theorem XK_sim {w0 : World} : OrdSim Tryz.prog w0 XK := sort_sim ⟨_, Tryz.func132, by kernel_rfl, by kernel_rfl⟩ (fun blk off cap zs w h1 h2 h3 => Go.Proofs.Tryz.slices_Sort_int blk off cap zs w h1 h2 h3) (fun p cap w => Go.Proofs.Tryz.slices_Sort_int_none p cap w)
end Go.Proofs.YtgdfgnppeekfjaaGreat.Vm
