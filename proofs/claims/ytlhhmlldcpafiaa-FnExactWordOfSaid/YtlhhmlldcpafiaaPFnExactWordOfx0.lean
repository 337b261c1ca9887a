-- PRINTED BY print.sh 35421559b90ae4d0a3588c463048766b98c2df88dd9212a6774a882060cdf62d: not written by this session
import Derived.Test.YtlhhmlldcpafiaaProg
import Derived.Below
import Derived.Deep.Draws
import Derived.Deep.AppendLies
import Derived.Maps.AppendAt
import Derived.OwnWalk
import Derived.Laws.BytesArg
import Derived.Laws.MakeOwn
import Derived.Laws.OwnMore
import Derived.Deep.OwnRows
import Derived.Tactics
import Derived.Lib.ConvBytes
import Derived.Laws.Slices
import Derived.WalkKit
import Derived.KernelRfl
import Derived.RowKit3
import Derived.Deep.LoopGhost
import Derived.Deep.QuietTactic
import Derived.BigQuiet
import Derived.WideLaws
import Derived.Deep.DeepCutAuto
import Derived.Deep.CutBlock
import Derived.Deep.RegionHeld3
import Derived.Laws.Rows
import Derived.Lib.AppendStr
import Derived.ArgAppend
import Derived.Laws.IdiomCopy
import Derived.OrdersHeld
import Derived.Laws.BitsLemmas
import Derived.RowKit
import Derived.Test.YtlhhmlldcpafiaaWWords
import Derived.Test.YtlhhmlldcpafiaaWLast
import Derived.Test.YtlhhmlldcpafiaaWTab
import Derived.Test.YtlhhmlldcpafiaaWFour
import Derived.Test.YtlhhmlldcpafiaaWQPut
import Derived.Test.YtlhhmlldcpafiaaWApart
import Derived.Test.YtlhhmlldcpafiaaWArr
import Derived.Test.YtlhhmlldcpafiaaWZeros
import Derived.Test.YtlhhmlldcpafiaaWFoot
import Derived.Test.YtlhhmlldcpafiaaWKept
import Derived.Test.YtlhhmlldcpafiaaWShare
import Derived.Test.YtlhhmlldcpafiaaWN
import Derived.Test.YtlhhmlldcpafiaaWFootNe
import Derived.Test.YtlhhmlldcpafiaaWAt
import Derived.Test.YtlhhmlldcpafiaaWEqStruct
import Derived.Test.YtlhhmlldcpafiaaWRepsOne
import Derived.Test.YtlhhmlldcpafiaaWInv
import Derived.Test.YtlhhmlldcpafiaaWInvWords
import Derived.Test.YtlhhmlldcpafiaaWGuard
import Derived.Test.YtlhhmlldcpafiaaWNEv
import Derived.Test.YtlhhmlldcpafiaaWMore
namespace Go.Proofs.Ytlhhmlldcpafiaa.PFnExactWordOf
open Go.RowKit Go.Proofs.YtlhhmlldcpafiaaW.PrintWords Go.Proofs.YtlhhmlldcpafiaaW.PrintLast Go.Proofs.YtlhhmlldcpafiaaW.PrintMore
attribute [local go_sem] max2_int min2_int max_two min_two max_three min_three max_four min_four   -- for this text's walks alone
set_option linter.unusedVariables false
set_option linter.unusedSimpArgs false



def errW : Option Int → Value
  | none => .nilIface
  | some c => .iface 0 (.int .i64 c)
theorem errW_none : errW none = .nilIface := rfl
theorem errW_some (c : Int) : errW (some c) = .iface 0 (.int .i64 c) := rfl

theorem info9 : (Try.prog.info? 9).map (fun i => (i.zero, i.size, i.bytes)) = some (some (.string ⟨#[]⟩), 1, 16) := by kernel_rfl
-- the values' own types

end Go.Proofs.Ytlhhmlldcpafiaa.PFnExactWordOf
