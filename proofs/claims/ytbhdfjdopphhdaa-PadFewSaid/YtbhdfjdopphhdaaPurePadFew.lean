/- The number of blocks is the smallest possible one, and the number of blocks of a concatenation is at most the sum of both: for all pairs of ints. -/
import Derived.Test.YtbhdfjdopphhdaaPPadFewx1
import Derived.OpenShut
namespace Go.Proofs.Ytbhdfjdopphhdaa.Pure
open Go.RowKit Go.Proofs.Ytbhdfjdopphhdaa.PPadFew Go.Proofs.YtbhdfjdopphhdaaW.PrintWords Go.Proofs.YtbhdfjdopphhdaaW.PrintLast Go.Proofs.YtbhdfjdopphhdaaW.PrintMore

theorem w64 {n : Int} (h1 : -9223372036854775808 ≤ n) (h2 : n ≤ 9223372036854775807) : wrap64 n = n := by
  unfold wrap64
  omega

theorem picked_spec {a m : Int} (hw : (Lit.int .i64 a).wf = true) (hm : 0 < m) : ∃ t, creelkeep_picked.f a m = some t ∧ 0 ≤ t ∧ t < m := by
  obtain ⟨h1, h2⟩ := bounds_i64 hw
  unfold creelkeep_picked.f
  have e : ¬ m = 0 := by omega
  by_cases h : a < 0
  · rw [if_pos h, if_neg e, w64 (n := a + 1) (by omega) (by omega), w64 (by omega) (by omega)]
    exact ⟨_, rfl, Int.tmod_nonneg _ (by omega), Int.tmod_lt_of_pos _ hm⟩
  · rw [if_neg h, if_neg e]
    exact ⟨_, rfl, Int.tmod_nonneg _ (by omega), Int.tmod_lt_of_pos _ hm⟩

theorem blocks_spec {n : Int} (h0 : 0 ≤ n) (h1 : n ≤ 8589934591) : pad_Blocks.f n = some ((n + 511) / 512, 0) := by
  unfold pad_Blocks.f
  rw [if_neg (by omega), if_neg (by omega), w64 (n := n + 512) (by omega) (by omega), w64 (n := n + 512 - 1) (by omega) (by omega), Int.tdiv_eq_ediv_of_nonneg (by omega), w64 (by omega) (by omega)]
  have e : n + 512 - 1 = n + 511 := by omega
  rw [e]

theorem PadFew : creelkeep_PadFew.Pure := by
  intro a b ha hb
  obtain ⟨x, hx, x0, x1⟩ := picked_spec (m := 2147483648) ha (by decide)
  obtain ⟨y, hy, y0, y1⟩ := picked_spec (m := 2147483648) hb (by decide)
  unfold creelkeep_PadFew.f
  rw [hx, hy]
  simp only [Option.bind_some]
  rw [w64 (n := x + y) (by omega) (by omega)]
  rw [blocks_spec (n := x) (by omega) (by omega), blocks_spec (n := y) (by omega) (by omega), blocks_spec (n := x + y) (by omega) (by omega), blocks_spec (n := 1) (by omega) (by omega)]
  simp only [Option.bind_some, if_true]
  rw [w64 (n := (x + 511) / 512 + (y + 511) / 512) (by omega) (by omega), w64 (n := (x + 511) / 512 + (y + 511) / 512 - 1) (by omega) (by omega), w64 (n := (x + 511) / 512 * 512) (by omega) (by omega), w64 (n := x + 512) (by omega) (by omega)]
  rw [if_pos (by omega), if_pos (by omega), if_pos (by omega), if_pos (by omega)]
  have e : (x + 511) / 512 * 512 < x + 512 := by omega
  rw [decide_eq_true e]

end Go.Proofs.Ytbhdfjdopphhdaa.Pure
