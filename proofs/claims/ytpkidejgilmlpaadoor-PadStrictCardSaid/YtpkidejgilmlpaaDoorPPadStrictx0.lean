-- Written by a program of this session for this claim (wip/myprint.py over the kit's print).
import Derived.Test.YtpkidejgilmlpaaDoorProg
import Derived.Below
import Derived.Deep.Draws
import Derived.Deep.AppendLies
import Derived.Maps.AppendAt
import Derived.OwnWalk
import Derived.Laws.BytesArg
import Derived.Laws.MakeOwn
import Derived.Laws.OwnMore
import Derived.Deep.OwnRows
import Derived.Tactics
import Derived.Lib.ConvBytes
import Derived.Laws.Slices
import Derived.WalkKit
import Derived.KernelRfl
import Derived.RowKit3
import Derived.Deep.LoopGhost
import Derived.Deep.QuietTactic
import Derived.BigQuiet
import Derived.WideLaws
import Derived.Deep.DeepCutAuto
import Derived.Deep.CutBlock
import Derived.Deep.RegionHeld3
import Derived.Laws.Rows
import Derived.Lib.AppendStr
import Derived.ArgAppend
import Derived.Laws.IdiomCopy
import Derived.OrdersHeld
import Derived.Laws.BitsLemmas
import Derived.RowKit
import Derived.Test.YtpkidejgilmlpaaDoorShelf
import Derived.Lib.SliceRun
import Derived.Outline
import Derived.Lib.LaidTab
import Derived.Lib.ItoaNum
import Derived.Lib.SlBytesConst
import Derived.Laws.RangeAny
import Derived.Laws.Cover1
import Derived.Test.YtpkidejgilmlpaaDoorWWords
import Derived.Test.YtpkidejgilmlpaaDoorWLast
import Derived.Test.YtpkidejgilmlpaaDoorWTab
import Derived.Test.YtpkidejgilmlpaaDoorWFour
import Derived.Test.YtpkidejgilmlpaaDoorWQPut
import Derived.Test.YtpkidejgilmlpaaDoorWApart
import Derived.Test.YtpkidejgilmlpaaDoorWArr
import Derived.Test.YtpkidejgilmlpaaDoorWZeros
import Derived.Test.YtpkidejgilmlpaaDoorWFoot
import Derived.Test.YtpkidejgilmlpaaDoorWKept
import Derived.Test.YtpkidejgilmlpaaDoorWShare
import Derived.Test.YtpkidejgilmlpaaDoorWN
import Derived.Test.YtpkidejgilmlpaaDoorWFootNe
import Derived.Test.YtpkidejgilmlpaaDoorWAt
import Derived.Test.YtpkidejgilmlpaaDoorWEqStruct
import Derived.Test.YtpkidejgilmlpaaDoorWRepsOne
import Derived.Test.YtpkidejgilmlpaaDoorWInv
import Derived.Test.YtpkidejgilmlpaaDoorWInvWords
import Derived.Test.YtpkidejgilmlpaaDoorWGuard
import Derived.Test.YtpkidejgilmlpaaDoorWNEv
import Derived.Test.YtpkidejgilmlpaaDoorWMore
import Derived.Test.YtpkidejgilmlpaaDoorWSized
namespace Go.Proofs.YtpkidejgilmlpaaDoor.PPadStrict
open Go.RowKit Go.Proofs.YtpkidejgilmlpaaDoorW.PrintWords Go.Proofs.YtpkidejgilmlpaaDoorW.PrintLast Go.Proofs.YtpkidejgilmlpaaDoorW.PrintMore
attribute [local go_sem] max2_int min2_int max_two min_two max_three min_three max_four min_four   -- for this text's walks alone
set_option linter.unusedVariables false
set_option linter.unusedSimpArgs false



def errW : Option Int → Value
  | none => .nilIface
  | some c => .iface 0 (.int .i64 c)
theorem errW_none : errW none = .nilIface := rfl
theorem errW_some (c : Int) : errW (some c) = .iface 0 (.int .i64 c) := rfl

/-- What is known of library variables. -/
def G_ (w : World) : Prop := (∃ m : Int, w.cell? ⟨0, 0, none⟩ = some (.int .i64 m)) ∧ True
theorem G_below {w w' : World} (h : G_ w) (hb : Below w.heap.size w w') : G_ w' := ⟨h.1.imp fun _ hm => pw_cell_below hb hm, trivial⟩
theorem G_drewN {w : World} (h : G_ w) (n : Nat) : G_ (w.drewN n) := G_below h ((Drawn0.step (Drawn0.refl w) n).below)
theorem G_drew {w : World} (h : G_ w) : G_ w.drew := G_below h (below_drew (Below.refl _ _))

theorem info5 : (Tryd.prog.info? 5).map (fun i => (i.zero, i.size, i.bytes)) = some (some (.int .u8 0), 1, 1) := by kernel_rfl
-- the values' own types

end Go.Proofs.YtpkidejgilmlpaaDoor.PPadStrict
