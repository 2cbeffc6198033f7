-- Written by a program of this session for this claim (wip/myprint.py over the kit's print).
import Derived.Test.YthonjghpblkpgaaDoorProg
import Derived.Below
import Derived.Deep.Draws
import Derived.Deep.AppendLies
import Derived.Maps.AppendAt
import Derived.OwnWalk
import Derived.Laws.BytesArg
import Derived.Laws.MakeOwn
import Derived.Laws.OwnMore
import Derived.Deep.OwnRows
import Derived.Tactics
import Derived.Lib.ConvBytes
import Derived.Laws.Slices
import Derived.WalkKit
import Derived.KernelRfl
import Derived.RowKit3
import Derived.Deep.LoopGhost
import Derived.Deep.QuietTactic
import Derived.BigQuiet
import Derived.WideLaws
import Derived.Deep.DeepCutAuto
import Derived.Deep.CutBlock
import Derived.Deep.RegionHeld3
import Derived.Laws.Rows
import Derived.Lib.AppendStr
import Derived.ArgAppend
import Derived.Laws.IdiomCopy
import Derived.OrdersHeld
import Derived.Laws.BitsLemmas
import Derived.RowKit
import Derived.Test.YthonjghpblkpgaaDoorShelf
import Derived.Lib.SliceRun
import Derived.Outline
import Derived.Lib.LaidTab
import Derived.Lib.ItoaNum
import Derived.Lib.SlBytesConst
import Derived.Laws.RangeAny
import Derived.Laws.Cover1
import Derived.Lib.Atoi
import Derived.Lib.SmallJoins
import Derived.Shelf.Strings.SlTrimAscii
import Derived.Test.YthonjghpblkpgaaDoorCalm
import Derived.Test.YthonjghpblkpgaaDoorEvents
import Derived.Test.YthonjghpblkpgaaDoorLex
import Derived.Test.YthonjghpblkpgaaDoorMore
import Derived.Test.YthonjghpblkpgaaDoorWWords
import Derived.Test.YthonjghpblkpgaaDoorWLast
import Derived.Test.YthonjghpblkpgaaDoorWTab
import Derived.Test.YthonjghpblkpgaaDoorWFour
import Derived.Test.YthonjghpblkpgaaDoorWQPut
import Derived.Test.YthonjghpblkpgaaDoorWApart
import Derived.Test.YthonjghpblkpgaaDoorWArr
import Derived.Test.YthonjghpblkpgaaDoorWZeros
import Derived.Test.YthonjghpblkpgaaDoorWFoot
import Derived.Test.YthonjghpblkpgaaDoorWKept
import Derived.Test.YthonjghpblkpgaaDoorWShare
import Derived.Test.YthonjghpblkpgaaDoorWN
import Derived.Test.YthonjghpblkpgaaDoorWFootNe
import Derived.Test.YthonjghpblkpgaaDoorWAt
import Derived.Test.YthonjghpblkpgaaDoorWEqStruct
import Derived.Test.YthonjghpblkpgaaDoorWRepsOne
import Derived.Test.YthonjghpblkpgaaDoorWInv
import Derived.Test.YthonjghpblkpgaaDoorWInvWords
import Derived.Test.YthonjghpblkpgaaDoorWGuard
import Derived.Test.YthonjghpblkpgaaDoorWNEv
import Derived.Test.YthonjghpblkpgaaDoorWMore
import Derived.Test.YthonjghpblkpgaaDoorWSized
namespace Go.Proofs.YthonjghpblkpgaaDoor.PRecordBack
open Go.RowKit Go.Proofs.YthonjghpblkpgaaDoorW.PrintWords Go.Proofs.YthonjghpblkpgaaDoorW.PrintLast Go.Proofs.YthonjghpblkpgaaDoorW.PrintMore
attribute [local go_sem] max2_int min2_int max_two min_two max_three min_three max_four min_four   -- for this text's walks alone
set_option linter.unusedVariables false
set_option linter.unusedSimpArgs false



def errW : Option Int → Value
  | none => .nilIface
  | some c => .iface 0 (.int .i64 c)
theorem errW_none : errW none = .nilIface := rfl
theorem errW_some (c : Int) : errW (some c) = .iface 0 (.int .i64 c) := rfl

/-- What is known of library variables. -/
def G_ (w : World) : Prop := (∃ m : Int, w.cell? ⟨0, 0, none⟩ = some (.int .i64 m)) ∧ Lib.TabIs Tryd.prog w "internal/strconv.uint64pow10" .u64 Lib.pow10Tab
theorem gname10 : Tryd.prog.globalNamed "internal/strconv.uint64pow10" = some 1 := by kernel_rfl
theorem tab_below {w w' : World} (h : Lib.TabIs Tryd.prog w "internal/strconv.uint64pow10" .u64 Lib.pow10Tab) (hb : Below w.heap.size w w') : Lib.TabIs Tryd.prog w' "internal/strconv.uint64pow10" .u64 Lib.pow10Tab := by
  unfold Lib.TabIs World.var? at h ⊢
  rw [gname10] at h ⊢
  simp only [Option.bind_some] at h ⊢
  have hlt : 1 < w.heap.size := by
    rcases Nat.lt_or_ge 1 w.heap.size with h' | h'
    · exact h'
    · rw [Array.getElem?_eq_none h'] at h; cases h
  rw [hb.block 1 hlt]
  exact h
theorem G_below {w w' : World} (h : G_ w) (hb : Below w.heap.size w w') : G_ w' := ⟨h.1.imp fun _ hm => pw_cell_below hb hm, tab_below h.2 hb⟩
theorem G_drewN {w : World} (h : G_ w) (n : Nat) : G_ (w.drewN n) := G_below h ((Drawn0.step (Drawn0.refl w) n).below)
theorem G_drew {w : World} (h : G_ w) : G_ w.drew := G_below h (below_drew (Below.refl _ _))

-- the values' own types

end Go.Proofs.YthonjghpblkpgaaDoor.PRecordBack
