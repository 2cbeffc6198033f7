-- Written by a program of this session for this claim (wip/myprint.py over the kit's print).
import Derived.Test.YtpkidejgilmlpaaProg
import Derived.Below
import Derived.Deep.Draws
import Derived.Deep.AppendLies
import Derived.Maps.AppendAt
import Derived.OwnWalk
import Derived.Laws.BytesArg
import Derived.Laws.MakeOwn
import Derived.Laws.OwnMore
import Derived.Deep.OwnRows
import Derived.Tactics
import Derived.Lib.ConvBytes
import Derived.Laws.Slices
import Derived.WalkKit
import Derived.KernelRfl
import Derived.RowKit3
import Derived.Deep.LoopGhost
import Derived.Deep.QuietTactic
import Derived.BigQuiet
import Derived.WideLaws
import Derived.Deep.DeepCutAuto
import Derived.Deep.CutBlock
import Derived.Deep.RegionHeld3
import Derived.Laws.Rows
import Derived.Lib.AppendStr
import Derived.ArgAppend
import Derived.Laws.IdiomCopy
import Derived.OrdersHeld
import Derived.Laws.BitsLemmas
import Derived.RowKit
import Derived.Test.YtpkidejgilmlpaaShelf
import Derived.Lib.SliceRun
import Derived.Outline
import Derived.Lib.LaidTab
import Derived.Lib.ItoaNum
import Derived.Lib.SlBytesConst
import Derived.Laws.RangeAny
import Derived.Laws.Cover1
import Derived.Test.YtpkidejgilmlpaaWWords
import Derived.Test.YtpkidejgilmlpaaWLast
import Derived.Test.YtpkidejgilmlpaaWTab
import Derived.Test.YtpkidejgilmlpaaWFour
import Derived.Test.YtpkidejgilmlpaaWQPut
import Derived.Test.YtpkidejgilmlpaaWApart
import Derived.Test.YtpkidejgilmlpaaWArr
import Derived.Test.YtpkidejgilmlpaaWZeros
import Derived.Test.YtpkidejgilmlpaaWFoot
import Derived.Test.YtpkidejgilmlpaaWKept
import Derived.Test.YtpkidejgilmlpaaWShare
import Derived.Test.YtpkidejgilmlpaaWN
import Derived.Test.YtpkidejgilmlpaaWFootNe
import Derived.Test.YtpkidejgilmlpaaWAt
import Derived.Test.YtpkidejgilmlpaaWEqStruct
import Derived.Test.YtpkidejgilmlpaaWRepsOne
import Derived.Test.YtpkidejgilmlpaaWInv
import Derived.Test.YtpkidejgilmlpaaWInvWords
import Derived.Test.YtpkidejgilmlpaaWGuard
import Derived.Test.YtpkidejgilmlpaaWNEv
import Derived.Test.YtpkidejgilmlpaaWMore
import Derived.Test.YtpkidejgilmlpaaWSized
namespace Go.Proofs.Ytpkidejgilmlpaa.PCutShort
open Go.RowKit Go.Proofs.YtpkidejgilmlpaaW.PrintWords Go.Proofs.YtpkidejgilmlpaaW.PrintLast Go.Proofs.YtpkidejgilmlpaaW.PrintMore
attribute [local go_sem] max2_int min2_int max_two min_two max_three min_three max_four min_four   -- for this text's walks alone
set_option linter.unusedVariables false
set_option linter.unusedSimpArgs false



def errW : Option Int → Value
  | none => .nilIface
  | some c => .iface 0 (.int .i64 c)
theorem errW_none : errW none = .nilIface := rfl
theorem errW_some (c : Int) : errW (some c) = .iface 0 (.int .i64 c) := rfl

/-- What is known of library variables. -/
def G_ (w : World) : Prop := (∃ m : Int, w.cell? ⟨0, 0, none⟩ = some (.int .i64 m)) ∧ True
theorem G_below {w w' : World} (h : G_ w) (hb : Below w.heap.size w w') : G_ w' := ⟨h.1.imp fun _ hm => pw_cell_below hb hm, trivial⟩
theorem G_drewN {w : World} (h : G_ w) (n : Nat) : G_ (w.drewN n) := G_below h ((Drawn0.step (Drawn0.refl w) n).below)
theorem G_drew {w : World} (h : G_ w) : G_ w.drew := G_below h (below_drew (Below.refl _ _))

-- the values' own types

end Go.Proofs.Ytpkidejgilmlpaa.PCutShort
