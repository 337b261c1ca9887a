/- The law FnExactWordName returns true at every int. No conditions but that the argument is an int. -/
import Derived.Test.YtlhhmlldcpafiaaPFnExactWordNamex1
namespace Go.Proofs.Ytlhhmlldcpafiaa.Pure
open Go.RowKit Go.Proofs.Ytlhhmlldcpafiaa.PFnExactWordName Go.Proofs.YtlhhmlldcpafiaaW.PrintWords Go.Proofs.YtlhhmlldcpafiaaW.PrintLast

theorem FnExactWordName : laws_FnExactWordName.Pure := by
  intro a0 _
  unfold laws_FnExactWordName.f spec_WordName.f impl_WordName.f spec_WordOk.f impl_WordOk.f spec_l1In.f impl_in.f spec_l1Names.f impl_wordNames.f
  by_cases h : a0 ≥ 1
  · by_cases h2 : a0 ≤ 10
    · have h3 : 0 ≤ a0 := by omega
      have h4 : a0 < 11 := by omega
      simp [h, h2, h3, h4]
    · simp [h, h2]
  · simp [h]

end Go.Proofs.Ytlhhmlldcpafiaa.Pure
