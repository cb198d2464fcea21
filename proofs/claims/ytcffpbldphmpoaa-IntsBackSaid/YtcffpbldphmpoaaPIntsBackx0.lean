-- PRINTED BY print.sh 35421559b90ae4d0a3588c463048766b98c2df88dd9212a6774a882060cdf62d: not written by this session
import Derived.Test.YtcffpbldphmpoaaProg
import Derived.Below
import Derived.Deep.Draws
import Derived.Deep.AppendLies
import Derived.Maps.AppendAt
import Derived.OwnWalk
import Derived.Laws.BytesArg
import Derived.Laws.MakeOwn
import Derived.Laws.OwnMore
import Derived.Deep.OwnRows
import Derived.Tactics
import Derived.Lib.ConvBytes
import Derived.Laws.Slices
import Derived.WalkKit
import Derived.KernelRfl
import Derived.RowKit3
import Derived.Deep.LoopGhost
import Derived.Deep.QuietTactic
import Derived.BigQuiet
import Derived.WideLaws
import Derived.Deep.DeepCutAuto
import Derived.Deep.CutBlock
import Derived.Deep.RegionHeld3
import Derived.Laws.Rows
import Derived.Lib.AppendStr
import Derived.ArgAppend
import Derived.Laws.IdiomCopy
import Derived.OrdersHeld
import Derived.Laws.BitsLemmas
import Derived.RowKit
import Derived.Test.YtcffpbldphmpoaaWWords
import Derived.Test.YtcffpbldphmpoaaWLast
import Derived.Test.YtcffpbldphmpoaaWTab
import Derived.Test.YtcffpbldphmpoaaWFour
import Derived.Test.YtcffpbldphmpoaaWQPut
import Derived.Test.YtcffpbldphmpoaaWApart
import Derived.Test.YtcffpbldphmpoaaWArr
import Derived.Test.YtcffpbldphmpoaaWZeros
import Derived.Test.YtcffpbldphmpoaaWFoot
import Derived.Test.YtcffpbldphmpoaaWKept
import Derived.Test.YtcffpbldphmpoaaWShare
import Derived.Test.YtcffpbldphmpoaaWN
import Derived.Test.YtcffpbldphmpoaaWFootNe
import Derived.Test.YtcffpbldphmpoaaWAt
import Derived.Test.YtcffpbldphmpoaaWEqStruct
import Derived.Test.YtcffpbldphmpoaaWRepsOne
import Derived.Test.YtcffpbldphmpoaaWInv
import Derived.Test.YtcffpbldphmpoaaWInvWords
import Derived.Test.YtcffpbldphmpoaaWGuard
import Derived.Test.YtcffpbldphmpoaaWNEv
import Derived.Test.YtcffpbldphmpoaaWMore
namespace Go.Proofs.Ytcffpbldphmpoaa.PIntsBack
open Go.RowKit Go.Proofs.YtcffpbldphmpoaaW.PrintWords Go.Proofs.YtcffpbldphmpoaaW.PrintLast Go.Proofs.YtcffpbldphmpoaaW.PrintMore
attribute [local go_sem] max2_int min2_int max_two min_two max_three min_three max_four min_four   -- for this text's walks alone
set_option linter.unusedVariables false
set_option linter.unusedSimpArgs false



def errW : Option Int → Value
  | none => .nilIface
  | some c => .iface 0 (.int .i64 c)
theorem errW_none : errW none = .nilIface := rfl
theorem errW_some (c : Int) : errW (some c) = .iface 0 (.int .i64 c) := rfl

theorem info5 : (Try.prog.info? 5).map (fun i => (i.zero, i.size, i.bytes)) = some (some (.int .u8 0), 1, 1) := by kernel_rfl
-- the values' own types

end Go.Proofs.Ytcffpbldphmpoaa.PIntsBack
