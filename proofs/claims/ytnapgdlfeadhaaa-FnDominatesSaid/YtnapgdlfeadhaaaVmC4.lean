/- The ideal machine's code for some of the program's functions, each checked against the translated one. No conditions. -/
import Derived.Test.YtnapgdlfeadhaaaChecked
import Derived.Test.YtnapgdlfeadhaaaVmQ
import Derived.Test.YtnapgdlfeadhaaaVmC
namespace Go.Proofs.Ytnapgdlfeadhaaa.Vm
set_option linter.unusedVariables false
set_option maxRecDepth 100000
/-- loop.example/g00192/laws.eqArm -/
def vf171v : List Nat := [0,1,2,3,4,9,14]
def vf171c : VC := .seq (.rg [V 2 (.box (.t 0)),
V 3 (.box (.t 1)),
V 4 (.mv (.k (.c (.b false))))]) (.seq (.seq (.rg [V 5 (.fad 0 (.t 2)),
V 6 (.ld none (.t 5)),
V 7 (.fad 0 (.t 3)),
V 8 (.ld none (.t 7)),
V 9 (.bin .ne (.t 6) (.t 8))]) (.cond (.t 9) (.seq (.rg [V 4 (.mv (.k (.c (.b false))))]) (.ret)) (.skip))) (.seq (.seq (.rg [V 10 (.fad 1 (.t 2)),
V 11 (.ld none (.t 10)),
V 12 (.fad 1 (.t 3)),
V 13 (.ld none (.t 12)),
V 14 (.bin .ne (.t 11) (.t 13))]) (.cond (.t 14) (.seq (.rg [V 4 (.mv (.k (.c (.b false))))]) (.ret)) (.skip))) (.seq (.rg [V 4 (.mv (.k (.c (.b true))))]) (.ret))))
def vf171 : VF := ⟨vf171c,vf171v,[(4,none)]⟩
theorem ok171 : chkF Try.prog Try.f171 vf171 = true := by kernel_rfl
theorem dr171 : drawsB vf171.body = true := by kernel_rfl
end Go.Proofs.Ytnapgdlfeadhaaa.Vm
