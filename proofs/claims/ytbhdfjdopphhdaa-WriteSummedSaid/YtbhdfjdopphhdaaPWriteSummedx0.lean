-- Written by a program of this session for this claim (wip/myprint.py over the kit's print).
import Derived.Test.YtbhdfjdopphhdaaProg
import Derived.Below
import Derived.Deep.Draws
import Derived.Deep.AppendLies
import Derived.Maps.AppendAt
import Derived.OwnWalk
import Derived.Laws.BytesArg
import Derived.Laws.MakeOwn
import Derived.Laws.OwnMore
import Derived.Deep.OwnRows
import Derived.Tactics
import Derived.Lib.ConvBytes
import Derived.Laws.Slices
import Derived.WalkKit
import Derived.KernelRfl
import Derived.RowKit3
import Derived.Deep.LoopGhost
import Derived.Deep.QuietTactic
import Derived.BigQuiet
import Derived.WideLaws
import Derived.Deep.DeepCutAuto
import Derived.Deep.CutBlock
import Derived.Deep.RegionHeld3
import Derived.Laws.Rows
import Derived.Lib.AppendStr
import Derived.ArgAppend
import Derived.Laws.IdiomCopy
import Derived.OrdersHeld
import Derived.Laws.BitsLemmas
import Derived.RowKit
import Derived.Lib.SliceRun
import Derived.Outline
import Derived.Lib.SlBytesConst
import Derived.Test.YtbhdfjdopphhdaaWWords
import Derived.Test.YtbhdfjdopphhdaaWLast
import Derived.Test.YtbhdfjdopphhdaaWTab
import Derived.Test.YtbhdfjdopphhdaaWFour
import Derived.Test.YtbhdfjdopphhdaaWQPut
import Derived.Test.YtbhdfjdopphhdaaWApart
import Derived.Test.YtbhdfjdopphhdaaWArr
import Derived.Test.YtbhdfjdopphhdaaWZeros
import Derived.Test.YtbhdfjdopphhdaaWFoot
import Derived.Test.YtbhdfjdopphhdaaWKept
import Derived.Test.YtbhdfjdopphhdaaWShare
import Derived.Test.YtbhdfjdopphhdaaWN
import Derived.Test.YtbhdfjdopphhdaaWFootNe
import Derived.Test.YtbhdfjdopphhdaaWAt
import Derived.Test.YtbhdfjdopphhdaaWEqStruct
import Derived.Test.YtbhdfjdopphhdaaWRepsOne
import Derived.Test.YtbhdfjdopphhdaaWInv
import Derived.Test.YtbhdfjdopphhdaaWInvWords
import Derived.Test.YtbhdfjdopphhdaaWGuard
import Derived.Test.YtbhdfjdopphhdaaWNEv
import Derived.Test.YtbhdfjdopphhdaaWMore
import Derived.Test.YtbhdfjdopphhdaaWSized
namespace Go.Proofs.Ytbhdfjdopphhdaa.PWriteSummed
open Go.RowKit Go.Proofs.YtbhdfjdopphhdaaW.PrintWords Go.Proofs.YtbhdfjdopphhdaaW.PrintLast Go.Proofs.YtbhdfjdopphhdaaW.PrintMore
attribute [local go_sem] max2_int min2_int max_two min_two max_three min_three max_four min_four   -- for this text's walks alone
set_option linter.unusedVariables false
set_option linter.unusedSimpArgs false



def errW : Option Int → Value
  | none => .nilIface
  | some c => .iface 0 (.int .i64 c)
theorem errW_none : errW none = .nilIface := rfl
theorem errW_some (c : Int) : errW (some c) = .iface 0 (.int .i64 c) := rfl

theorem info5 : (Try.prog.info? 5).map (fun i => (i.zero, i.size, i.bytes)) = some (some (.int .u8 0), 1, 1) := by kernel_rfl
-- the values' own types

end Go.Proofs.Ytbhdfjdopphhdaa.PWriteSummed
