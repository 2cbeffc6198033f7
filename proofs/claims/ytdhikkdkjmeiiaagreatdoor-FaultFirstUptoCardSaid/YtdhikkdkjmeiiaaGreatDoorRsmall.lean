/- Arguments told otherwise; the small tree. -/
import Derived.Test.YtdhikkdkjmeiiaaGreatDoorRgroups
import Derived.Test.YtdhikkdkjmeiiaaGreatDoorRchk
namespace Go.Proofs.YtdhikkdkjmeiiaaGreatDoor.Abs
open Go.RowKit Go.MapKept
set_option linter.unusedVariables false
set_option linter.unusedSimpArgs false
set_option maxRecDepth 100000
set_option maxHeartbeats 4000000
theorem AC_imp1 {C : Ctx} {f : FuncId} {x y : AV} {l : List AV} {r : AV} (h : AC C f (y :: l) r) (hi : Imp x y) : AC C f (x :: l) r := fun w vs ok hgd hG hr => by
  obtain ⟨v, rest, rfl, hv, hr⟩ := hr
  exact h w _ ok hgd hG ⟨v, _, rfl, hi _ _ _ _ hv, hr⟩
theorem AC_imp2 {C : Ctx} {f : FuncId} {a x y : AV} {l : List AV} {r : AV} (h : AC C f (a :: y :: l) r) (hi : Imp x y) : AC C f (a :: x :: l) r := fun w vs ok hgd hG hr => by
  obtain ⟨v, rest, rfl, hv, v2, rest2, rfl, hv2, hr⟩ := hr
  exact h w _ ok hgd hG ⟨v, _, rfl, hv, v2, _, rfl, hi _ _ _ _ hv2, hr⟩
theorem smallL : smallT.length = 3 := rfl
theorem small_tree : TreeOk smallT := (tree_of small_good (by kernel_rfl)).1
end Go.Proofs.YtdhikkdkjmeiiaaGreatDoor.Abs
