/- The law FnExactWordOk returns true at every int. No conditions but that the argument is an int. -/
import Derived.Test.YtlhhmlldcpafiaaPFnExactWordOkx1
namespace Go.Proofs.Ytlhhmlldcpafiaa.Pure
open Go.RowKit Go.Proofs.Ytlhhmlldcpafiaa.PFnExactWordOk Go.Proofs.YtlhhmlldcpafiaaW.PrintWords Go.Proofs.YtlhhmlldcpafiaaW.PrintLast

theorem FnExactWordOk : laws_FnExactWordOk.Pure := by
  intro a0 _
  unfold laws_FnExactWordOk.f spec_WordOk.f impl_WordOk.f spec_l1In.f impl_in.f
  by_cases h : a0 ≥ 1
  · simp [h]
  · simp [h]

end Go.Proofs.Ytlhhmlldcpafiaa.Pure
