/- The law of trees that are told anew. -/
import Derived.Test.YtaogbdfmoeolnaaDoorRanew2
namespace Go.Proofs.YtaogbdfmoeolnaaDoor.Abs
open Go.RowKit Go.MapKept
set_option linter.unusedVariables false
set_option linter.unusedSimpArgs false
set_option maxRecDepth 100000
set_option maxHeartbeats 4000000
theorem anewT_ac {t : List NodeT} (hT : TreeOk t) (hl : t.length ≤ 40) : AC CX 32 [.row 12 (t.map encNode)] (.tup [.row 12 ((anewL t).map encNode), .v (.int .i64 0)]) :=
  anew_ac t hT.node (by omega) (check_tree hT hl) (fun q hq => by have := first_le hl q hq; omega)
theorem anewT_tree {t : List NodeT} (hT : TreeOk t) : TreeOk (anewL t) := anew_tree hT (firstsOf t)
theorem anewSmall_ac : ∃ s : List NodeT, s.length = 3 ∧ AC CX 32 [.row 12 (smallT.map encNode)] (.tup [.row 12 (s.map encNode), .v (.int .i64 0)]) := by
  have hTs : TreeOk smallT := (tree_of small_good (by kernel_rfl)).1
  have hl : smallT.length = 3 := rfl
  have hs := anewT_ac hTs (by omega)
  have hn := anew_len smallT
  rw [hl] at hn
  exact ⟨_, hn, hs⟩
end Go.Proofs.YtaogbdfmoeolnaaDoor.Abs
