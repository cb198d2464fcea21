-- The walk of a law and of what it calls, by a program, over contracts of my own beside it.
import Derived.Test.YtpjlnalhaeopeaaProg
import Derived.Below
import Derived.Deep.Draws
import Derived.Deep.AppendLies
import Derived.Maps.AppendAt
import Derived.OwnWalk
import Derived.Laws.BytesArg
import Derived.Laws.MakeOwn
import Derived.Laws.OwnMore
import Derived.Deep.OwnRows
import Derived.Tactics
import Derived.Lib.ConvBytes
import Derived.Laws.Slices
import Derived.WalkKit
import Derived.KernelRfl
import Derived.RowKit3
import Derived.Deep.LoopGhost
import Derived.Deep.QuietTactic
import Derived.BigQuiet
import Derived.WideLaws
import Derived.Deep.DeepCutAuto
import Derived.Deep.CutBlock
import Derived.Deep.RegionHeld3
import Derived.Laws.Rows
import Derived.Lib.AppendStr
import Derived.ArgAppend
import Derived.Laws.IdiomCopy
import Derived.OrdersHeld
import Derived.Laws.BitsLemmas
import Derived.RowKit
import Derived.Test.YtpjlnalhaeopeaaMa
import Derived.Test.YtpjlnalhaeopeaaEncode
import Derived.Test.YtpjlnalhaeopeaaTwin
import Derived.Test.YtpjlnalhaeopeaaWWords
import Derived.Test.YtpjlnalhaeopeaaWLast
import Derived.Test.YtpjlnalhaeopeaaWTab
import Derived.Test.YtpjlnalhaeopeaaWFour
import Derived.Test.YtpjlnalhaeopeaaWQPut
import Derived.Test.YtpjlnalhaeopeaaWApart
import Derived.Test.YtpjlnalhaeopeaaWArr
import Derived.Test.YtpjlnalhaeopeaaWZeros
import Derived.Test.YtpjlnalhaeopeaaWFoot
import Derived.Test.YtpjlnalhaeopeaaWKept
import Derived.Test.YtpjlnalhaeopeaaWShare
import Derived.Test.YtpjlnalhaeopeaaWN
import Derived.Test.YtpjlnalhaeopeaaWFootNe
import Derived.Test.YtpjlnalhaeopeaaWAt
import Derived.Test.YtpjlnalhaeopeaaWEqStruct
import Derived.Test.YtpjlnalhaeopeaaWRepsOne
import Derived.Test.YtpjlnalhaeopeaaWInv
import Derived.Test.YtpjlnalhaeopeaaWInvWords
import Derived.Test.YtpjlnalhaeopeaaWGuard
import Derived.Test.YtpjlnalhaeopeaaWNEv
import Derived.Test.YtpjlnalhaeopeaaWMore
namespace Go.Proofs.Ytpjlnalhaeopeaa.QGapsEncode
open Go.RowKit Go.Proofs.YtpjlnalhaeopeaaW.PrintWords Go.Proofs.YtpjlnalhaeopeaaW.PrintLast Go.Proofs.YtpjlnalhaeopeaaW.PrintMore
attribute [local go_sem] max2_int min2_int max_two min_two max_three min_three max_four min_four   -- for this text's walks alone
set_option linter.unusedVariables false
set_option linter.unusedSimpArgs false



def errW : Option Int → Value
  | none => .nilIface
  | some c => .iface 0 (.int .i64 c)
theorem errW_none : errW none = .nilIface := rfl
theorem errW_some (c : Int) : errW (some c) = .iface 0 (.int .i64 c) := rfl

theorem info3 : (Try.prog.info? 3).map (fun i => (i.zero, i.size, i.bytes)) = some (some (.int .i64 0), 1, 8) := by kernel_rfl
theorem info5 : (Try.prog.info? 5).map (fun i => (i.zero, i.size, i.bytes)) = some (some (.int .u8 0), 1, 1) := by kernel_rfl
-- the values' own types

end Go.Proofs.Ytpjlnalhaeopeaa.QGapsEncode
