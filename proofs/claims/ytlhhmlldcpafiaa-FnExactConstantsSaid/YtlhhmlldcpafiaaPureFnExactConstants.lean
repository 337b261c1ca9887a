/- The law FnExactConstants returns true. No conditions. -/
import Derived.Test.YtlhhmlldcpafiaaPFnExactConstantsx1
namespace Go.Proofs.Ytlhhmlldcpafiaa.Pure
open Go.RowKit Go.Proofs.Ytlhhmlldcpafiaa.PFnExactConstants Go.Proofs.YtlhhmlldcpafiaaW.PrintWords Go.Proofs.YtlhhmlldcpafiaaW.PrintLast

theorem FnExactConstants : laws_FnExactConstants.Pure := rfl

end Go.Proofs.Ytlhhmlldcpafiaa.Pure
