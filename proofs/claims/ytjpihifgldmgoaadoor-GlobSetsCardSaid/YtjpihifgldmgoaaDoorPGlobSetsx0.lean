-- Written by a program of this session for this claim (wip/myprint.py over the kit's print).
import Derived.Test.YtjpihifgldmgoaaDoorProg
import Derived.Below
import Derived.Deep.Draws
import Derived.Deep.AppendLies
import Derived.Maps.AppendAt
import Derived.OwnWalk
import Derived.Laws.BytesArg
import Derived.Laws.MakeOwn
import Derived.Laws.OwnMore
import Derived.Deep.OwnRows
import Derived.Tactics
import Derived.Lib.ConvBytes
import Derived.Laws.Slices
import Derived.WalkKit
import Derived.KernelRfl
import Derived.RowKit3
import Derived.Deep.LoopGhost
import Derived.Deep.QuietTactic
import Derived.BigQuiet
import Derived.WideLaws
import Derived.Deep.DeepCutAuto
import Derived.Deep.CutBlock
import Derived.Deep.RegionHeld3
import Derived.Laws.Rows
import Derived.Lib.AppendStr
import Derived.ArgAppend
import Derived.Laws.IdiomCopy
import Derived.OrdersHeld
import Derived.Laws.BitsLemmas
import Derived.RowKit
import Derived.Test.YtjpihifgldmgoaaDoorShelf
import Derived.Lib.SliceRun
import Derived.Outline
import Derived.Lib.LaidTab
import Derived.Lib.ItoaNum
import Derived.Lib.SlBytesConst
import Derived.Laws.RangeAny
import Derived.Laws.Cover1
import Derived.Lib.Atoi
import Derived.Lib.SmallJoins
import Derived.Shelf.Strings.SlTrimAscii
import Derived.Test.YtjpihifgldmgoaaDoorCalm
import Derived.Test.YtjpihifgldmgoaaDoorEvents
import Derived.Test.YtjpihifgldmgoaaDoorLex
import Derived.Test.YtjpihifgldmgoaaDoorCalm2
import Derived.Shelf.SlSortCmp.NoneTotal
import Derived.Test.YtjpihifgldmgoaaDoorWWords
import Derived.Test.YtjpihifgldmgoaaDoorWLast
import Derived.Test.YtjpihifgldmgoaaDoorWTab
import Derived.Test.YtjpihifgldmgoaaDoorWFour
import Derived.Test.YtjpihifgldmgoaaDoorWQPut
import Derived.Test.YtjpihifgldmgoaaDoorWApart
import Derived.Test.YtjpihifgldmgoaaDoorWArr
import Derived.Test.YtjpihifgldmgoaaDoorWZeros
import Derived.Test.YtjpihifgldmgoaaDoorWFoot
import Derived.Test.YtjpihifgldmgoaaDoorWKept
import Derived.Test.YtjpihifgldmgoaaDoorWShare
import Derived.Test.YtjpihifgldmgoaaDoorWN
import Derived.Test.YtjpihifgldmgoaaDoorWFootNe
import Derived.Test.YtjpihifgldmgoaaDoorWAt
import Derived.Test.YtjpihifgldmgoaaDoorWEqStruct
import Derived.Test.YtjpihifgldmgoaaDoorWRepsOne
import Derived.Test.YtjpihifgldmgoaaDoorWInv
import Derived.Test.YtjpihifgldmgoaaDoorWInvWords
import Derived.Test.YtjpihifgldmgoaaDoorWGuard
import Derived.Test.YtjpihifgldmgoaaDoorWNEv
import Derived.Test.YtjpihifgldmgoaaDoorWMore
import Derived.Test.YtjpihifgldmgoaaDoorWSized
namespace Go.Proofs.YtjpihifgldmgoaaDoor.PGlobSets
open Go.RowKit Go.Proofs.YtjpihifgldmgoaaDoorW.PrintWords Go.Proofs.YtjpihifgldmgoaaDoorW.PrintLast Go.Proofs.YtjpihifgldmgoaaDoorW.PrintMore
attribute [local go_sem] max2_int min2_int max_two min_two max_three min_three max_four min_four   -- for this text's walks alone
set_option linter.unusedVariables false
set_option linter.unusedSimpArgs false



def errW : Option Int → Value
  | none => .nilIface
  | some c => .iface 0 (.int .i64 c)
theorem errW_none : errW none = .nilIface := rfl
theorem errW_some (c : Int) : errW (some c) = .iface 0 (.int .i64 c) := rfl

/-- What is known of library variables. -/
def G_ (w : World) : Prop := (∃ m : Int, w.cell? ⟨0, 0, none⟩ = some (.int .i64 m)) ∧ True
theorem G_below {w w' : World} (h : G_ w) (hb : Below w.heap.size w w') : G_ w' := ⟨h.1.imp fun _ hm => pw_cell_below hb hm, trivial⟩
theorem G_drewN {w : World} (h : G_ w) (n : Nat) : G_ (w.drewN n) := G_below h ((Drawn0.step (Drawn0.refl w) n).below)
theorem G_drew {w : World} (h : G_ w) : G_ w.drew := G_below h (below_drew (Below.refl _ _))

theorem info5 : (Tryd.prog.info? 5).map (fun i => (i.zero, i.size, i.bytes)) = some (some (.int .u8 0), 1, 1) := by kernel_rfl
theorem info9 : (Tryd.prog.info? 9).map (fun i => (i.zero, i.size, i.bytes)) = some (some (.string ⟨#[]⟩), 1, 16) := by kernel_rfl
-- the values' own types

end Go.Proofs.YtjpihifgldmgoaaDoor.PGlobSets
