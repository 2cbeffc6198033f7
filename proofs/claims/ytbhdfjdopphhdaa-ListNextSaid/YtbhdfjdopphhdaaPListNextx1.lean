-- PRINTED BY print.sh 35421559b90ae4d0a3588c463048766b98c2df88dd9212a6774a882060cdf62d: not written by this session
import Derived.Test.YtbhdfjdopphhdaaPListNextx0
namespace Go.Proofs.Ytbhdfjdopphhdaa.PListNext
open Go.RowKit Go.Proofs.YtbhdfjdopphhdaaW.PrintWords Go.Proofs.YtbhdfjdopphhdaaW.PrintLast Go.Proofs.YtbhdfjdopphhdaaW.PrintMore
attribute [local go_sem] max2_int min2_int max_two min_two max_three min_three max_four min_four   -- for this text's walks alone
set_option linter.unusedVariables false
set_option linter.unusedSimpArgs false

/-! ### creelkeep_picked: function 15 -/
def creelkeep_picked.f (a0 : Int) (a1 : Int) : Option (Int) := if a0 < 0 then (if a1 = 0 then (none) else (some (Int.tmod (wrap64 (-(wrap64 (a0 + 1)))) a1))) else (if a1 = 0 then (none) else (some (Int.tmod a0 a1)))
set_option maxHeartbeats 8000000 in
set_option maxRecDepth 100000 in
theorem creelkeep_picked.calls (a0 : Int) (a1 : Int) (r : Int) (w : World) (h : creelkeep_picked.f a0 a1 = some r) :
    Calls Try.prog 15 #[.int .i64 a0, .int .i64 a1] w fun e w' => e = .returned (.int .i64 r) ∧ Drawn0 w w' := by
  have H : (if a0 < 0 then (if a1 = 0 then (none) else (some (Int.tmod (wrap64 (-(wrap64 (a0 + 1)))) a1))) else (if a1 = 0 then (none) else (some (Int.tmod a0 a1)))) = some r := h
  clear h
  by_cases c3 : a0 < 0
  · rw [if_pos c3] at H
    have c3b0 : decide (a0 < 0) = true := decide_eq_true c3
    clear c3
    by_cases c4 : a1 = 0
    · rw [if_pos c4] at H
      exact absurd H (by simp)
    · rw [if_neg c4] at H
      have c4b0 : (a1 == 0) = false := beq_eq_false_iff_ne.mpr c4
      have c4b1 : (a1 != 0) = true := bne_iff_ne.mpr c4
      obtain rfl := Option.some.inj H
      go_enter Try.func15, Try.ntmps15
      go_wp2
      go_ret
      exact ⟨by first | rfl | (simp; done) | (simp [*]; done), by repeat (first | exact Drawn0.refl _ | apply Drawn0.step)⟩
  · rw [if_neg c3] at H
    have c3b0 : decide (a0 < 0) = false := decide_eq_false c3
    clear c3
    by_cases c5 : a1 = 0
    · rw [if_pos c5] at H
      exact absurd H (by simp)
    · rw [if_neg c5] at H
      have c5b0 : (a1 == 0) = false := beq_eq_false_iff_ne.mpr c5
      have c5b1 : (a1 != 0) = true := bne_iff_ne.mpr c5
      obtain rfl := Option.some.inj H
      go_enter Try.func15, Try.ntmps15
      go_wp2
      go_ret
      exact ⟨by first | rfl | (simp; done) | (simp [*]; done), by repeat (first | exact Drawn0.refl _ | apply Drawn0.step)⟩

/-! ### list_date: function 31 -/
def list_date.f (a0 : Int) : Option (Int × Int × Int) := if (wrap64 (a0 + 719468)) < 0 then (if (wrap64 (Int.tdiv (wrap64 ((wrap64 (5 * (wrap64 ((wrap64 ((wrap64 (a0 + 719468)) - (wrap64 (146097 * (wrap64 (Int.tdiv (wrap64 ((wrap64 (a0 + 719468)) - 146096)) 146097)))))) - (wrap64 ((wrap64 ((wrap64 (365 * (wrap64 (Int.tdiv (wrap64 ((wrap64 ((wrap64 ((wrap64 ((wrap64 (a0 + 719468)) - (wrap64 (146097 * (wrap64 (Int.tdiv (wrap64 ((wrap64 (a0 + 719468)) - 146096)) 146097)))))) - (wrap64 (Int.tdiv (wrap64 ((wrap64 (a0 + 719468)) - (wrap64 (146097 * (wrap64 (Int.tdiv (wrap64 ((wrap64 (a0 + 719468)) - 146096)) 146097)))))) 1460)))) + (wrap64 (Int.tdiv (wrap64 ((wrap64 (a0 + 719468)) - (wrap64 (146097 * (wrap64 (Int.tdiv (wrap64 ((wrap64 (a0 + 719468)) - 146096)) 146097)))))) 36524)))) - (wrap64 (Int.tdiv (wrap64 ((wrap64 (a0 + 719468)) - (wrap64 (146097 * (wrap64 (Int.tdiv (wrap64 ((wrap64 (a0 + 719468)) - 146096)) 146097)))))) 146096)))) 365)))) + (wrap64 (Int.tdiv (wrap64 (Int.tdiv (wrap64 ((wrap64 ((wrap64 ((wrap64 ((wrap64 (a0 + 719468)) - (wrap64 (146097 * (wrap64 (Int.tdiv (wrap64 ((wrap64 (a0 + 719468)) - 146096)) 146097)))))) - (wrap64 (Int.tdiv (wrap64 ((wrap64 (a0 + 719468)) - (wrap64 (146097 * (wrap64 (Int.tdiv (wrap64 ((wrap64 (a0 + 719468)) - 146096)) 146097)))))) 1460)))) + (wrap64 (Int.tdiv (wrap64 ((wrap64 (a0 + 719468)) - (wrap64 (146097 * (wrap64 (Int.tdiv (wrap64 ((wrap64 (a0 + 719468)) - 146096)) 146097)))))) 36524)))) - (wrap64 (Int.tdiv (wrap64 ((wrap64 (a0 + 719468)) - (wrap64 (146097 * (wrap64 (Int.tdiv (wrap64 ((wrap64 (a0 + 719468)) - 146096)) 146097)))))) 146096)))) 365)) 4)))) - (wrap64 (Int.tdiv (wrap64 (Int.tdiv (wrap64 ((wrap64 ((wrap64 ((wrap64 ((wrap64 (a0 + 719468)) - (wrap64 (146097 * (wrap64 (Int.tdiv (wrap64 ((wrap64 (a0 + 719468)) - 146096)) 146097)))))) - (wrap64 (Int.tdiv (wrap64 ((wrap64 (a0 + 719468)) - (wrap64 (146097 * (wrap64 (Int.tdiv (wrap64 ((wrap64 (a0 + 719468)) - 146096)) 146097)))))) 1460)))) + (wrap64 (Int.tdiv (wrap64 ((wrap64 (a0 + 719468)) - (wrap64 (146097 * (wrap64 (Int.tdiv (wrap64 ((wrap64 (a0 + 719468)) - 146096)) 146097)))))) 36524)))) - (wrap64 (Int.tdiv (wrap64 ((wrap64 (a0 + 719468)) - (wrap64 (146097 * (wrap64 (Int.tdiv (wrap64 ((wrap64 (a0 + 719468)) - 146096)) 146097)))))) 146096)))) 365)) 100)))))))) + 2)) 153)) < 10 then (some (wrap64 ((wrap64 (Int.tdiv (wrap64 ((wrap64 ((wrap64 ((wrap64 ((wrap64 (a0 + 719468)) - (wrap64 (146097 * (wrap64 (Int.tdiv (wrap64 ((wrap64 (a0 + 719468)) - 146096)) 146097)))))) - (wrap64 (Int.tdiv (wrap64 ((wrap64 (a0 + 719468)) - (wrap64 (146097 * (wrap64 (Int.tdiv (wrap64 ((wrap64 (a0 + 719468)) - 146096)) 146097)))))) 1460)))) + (wrap64 (Int.tdiv (wrap64 ((wrap64 (a0 + 719468)) - (wrap64 (146097 * (wrap64 (Int.tdiv (wrap64 ((wrap64 (a0 + 719468)) - 146096)) 146097)))))) 36524)))) - (wrap64 (Int.tdiv (wrap64 ((wrap64 (a0 + 719468)) - (wrap64 (146097 * (wrap64 (Int.tdiv (wrap64 ((wrap64 (a0 + 719468)) - 146096)) 146097)))))) 146096)))) 365)) + (wrap64 (400 * (wrap64 (Int.tdiv (wrap64 ((wrap64 (a0 + 719468)) - 146096)) 146097))))), wrap64 ((wrap64 (Int.tdiv (wrap64 ((wrap64 (5 * (wrap64 ((wrap64 ((wrap64 (a0 + 719468)) - (wrap64 (146097 * (wrap64 (Int.tdiv (wrap64 ((wrap64 (a0 + 719468)) - 146096)) 146097)))))) - (wrap64 ((wrap64 ((wrap64 (365 * (wrap64 (Int.tdiv (wrap64 ((wrap64 ((wrap64 ((wrap64 ((wrap64 (a0 + 719468)) - (wrap64 (146097 * (wrap64 (Int.tdiv (wrap64 ((wrap64 (a0 + 719468)) - 146096)) 146097)))))) - (wrap64 (Int.tdiv (wrap64 ((wrap64 (a0 + 719468)) - (wrap64 (146097 * (wrap64 (Int.tdiv (wrap64 ((wrap64 (a0 + 719468)) - 146096)) 146097)))))) 1460)))) + (wrap64 (Int.tdiv (wrap64 ((wrap64 (a0 + 719468)) - (wrap64 (146097 * (wrap64 (Int.tdiv (wrap64 ((wrap64 (a0 + 719468)) - 146096)) 146097)))))) 36524)))) - (wrap64 (Int.tdiv (wrap64 ((wrap64 (a0 + 719468)) - (wrap64 (146097 * (wrap64 (Int.tdiv (wrap64 ((wrap64 (a0 + 719468)) - 146096)) 146097)))))) 146096)))) 365)))) + (wrap64 (Int.tdiv (wrap64 (Int.tdiv (wrap64 ((wrap64 ((wrap64 ((wrap64 ((wrap64 (a0 + 719468)) - (wrap64 (146097 * (wrap64 (Int.tdiv (wrap64 ((wrap64 (a0 + 719468)) - 146096)) 146097)))))) - (wrap64 (Int.tdiv (wrap64 ((wrap64 (a0 + 719468)) - (wrap64 (146097 * (wrap64 (Int.tdiv (wrap64 ((wrap64 (a0 + 719468)) - 146096)) 146097)))))) 1460)))) + (wrap64 (Int.tdiv (wrap64 ((wrap64 (a0 + 719468)) - (wrap64 (146097 * (wrap64 (Int.tdiv (wrap64 ((wrap64 (a0 + 719468)) - 146096)) 146097)))))) 36524)))) - (wrap64 (Int.tdiv (wrap64 ((wrap64 (a0 + 719468)) - (wrap64 (146097 * (wrap64 (Int.tdiv (wrap64 ((wrap64 (a0 + 719468)) - 146096)) 146097)))))) 146096)))) 365)) 4)))) - (wrap64 (Int.tdiv (wrap64 (Int.tdiv (wrap64 ((wrap64 ((wrap64 ((wrap64 ((wrap64 (a0 + 719468)) - (wrap64 (146097 * (wrap64 (Int.tdiv (wrap64 ((wrap64 (a0 + 719468)) - 146096)) 146097)))))) - (wrap64 (Int.tdiv (wrap64 ((wrap64 (a0 + 719468)) - (wrap64 (146097 * (wrap64 (Int.tdiv (wrap64 ((wrap64 (a0 + 719468)) - 146096)) 146097)))))) 1460)))) + (wrap64 (Int.tdiv (wrap64 ((wrap64 (a0 + 719468)) - (wrap64 (146097 * (wrap64 (Int.tdiv (wrap64 ((wrap64 (a0 + 719468)) - 146096)) 146097)))))) 36524)))) - (wrap64 (Int.tdiv (wrap64 ((wrap64 (a0 + 719468)) - (wrap64 (146097 * (wrap64 (Int.tdiv (wrap64 ((wrap64 (a0 + 719468)) - 146096)) 146097)))))) 146096)))) 365)) 100)))))))) + 2)) 153)) + 3), wrap64 ((wrap64 ((wrap64 ((wrap64 ((wrap64 (a0 + 719468)) - (wrap64 (146097 * (wrap64 (Int.tdiv (wrap64 ((wrap64 (a0 + 719468)) - 146096)) 146097)))))) - (wrap64 ((wrap64 ((wrap64 (365 * (wrap64 (Int.tdiv (wrap64 ((wrap64 ((wrap64 ((wrap64 ((wrap64 (a0 + 719468)) - (wrap64 (146097 * (wrap64 (Int.tdiv (wrap64 ((wrap64 (a0 + 719468)) - 146096)) 146097)))))) - (wrap64 (Int.tdiv (wrap64 ((wrap64 (a0 + 719468)) - (wrap64 (146097 * (wrap64 (Int.tdiv (wrap64 ((wrap64 (a0 + 719468)) - 146096)) 146097)))))) 1460)))) + (wrap64 (Int.tdiv (wrap64 ((wrap64 (a0 + 719468)) - (wrap64 (146097 * (wrap64 (Int.tdiv (wrap64 ((wrap64 (a0 + 719468)) - 146096)) 146097)))))) 36524)))) - (wrap64 (Int.tdiv (wrap64 ((wrap64 (a0 + 719468)) - (wrap64 (146097 * (wrap64 (Int.tdiv (wrap64 ((wrap64 (a0 + 719468)) - 146096)) 146097)))))) 146096)))) 365)))) + (wrap64 (Int.tdiv (wrap64 (Int.tdiv (wrap64 ((wrap64 ((wrap64 ((wrap64 ((wrap64 (a0 + 719468)) - (wrap64 (146097 * (wrap64 (Int.tdiv (wrap64 ((wrap64 (a0 + 719468)) - 146096)) 146097)))))) - (wrap64 (Int.tdiv (wrap64 ((wrap64 (a0 + 719468)) - (wrap64 (146097 * (wrap64 (Int.tdiv (wrap64 ((wrap64 (a0 + 719468)) - 146096)) 146097)))))) 1460)))) + (wrap64 (Int.tdiv (wrap64 ((wrap64 (a0 + 719468)) - (wrap64 (146097 * (wrap64 (Int.tdiv (wrap64 ((wrap64 (a0 + 719468)) - 146096)) 146097)))))) 36524)))) - (wrap64 (Int.tdiv (wrap64 ((wrap64 (a0 + 719468)) - (wrap64 (146097 * (wrap64 (Int.tdiv (wrap64 ((wrap64 (a0 + 719468)) - 146096)) 146097)))))) 146096)))) 365)) 4)))) - (wrap64 (Int.tdiv (wrap64 (Int.tdiv (wrap64 ((wrap64 ((wrap64 ((wrap64 ((wrap64 (a0 + 719468)) - (wrap64 (146097 * (wrap64 (Int.tdiv (wrap64 ((wrap64 (a0 + 719468)) - 146096)) 146097)))))) - (wrap64 (Int.tdiv (wrap64 ((wrap64 (a0 + 719468)) - (wrap64 (146097 * (wrap64 (Int.tdiv (wrap64 ((wrap64 (a0 + 719468)) - 146096)) 146097)))))) 1460)))) + (wrap64 (Int.tdiv (wrap64 ((wrap64 (a0 + 719468)) - (wrap64 (146097 * (wrap64 (Int.tdiv (wrap64 ((wrap64 (a0 + 719468)) - 146096)) 146097)))))) 36524)))) - (wrap64 (Int.tdiv (wrap64 ((wrap64 (a0 + 719468)) - (wrap64 (146097 * (wrap64 (Int.tdiv (wrap64 ((wrap64 (a0 + 719468)) - 146096)) 146097)))))) 146096)))) 365)) 100)))))) - (wrap64 (Int.tdiv (wrap64 ((wrap64 (153 * (wrap64 (Int.tdiv (wrap64 ((wrap64 (5 * (wrap64 ((wrap64 ((wrap64 (a0 + 719468)) - (wrap64 (146097 * (wrap64 (Int.tdiv (wrap64 ((wrap64 (a0 + 719468)) - 146096)) 146097)))))) - (wrap64 ((wrap64 ((wrap64 (365 * (wrap64 (Int.tdiv (wrap64 ((wrap64 ((wrap64 ((wrap64 ((wrap64 (a0 + 719468)) - (wrap64 (146097 * (wrap64 (Int.tdiv (wrap64 ((wrap64 (a0 + 719468)) - 146096)) 146097)))))) - (wrap64 (Int.tdiv (wrap64 ((wrap64 (a0 + 719468)) - (wrap64 (146097 * (wrap64 (Int.tdiv (wrap64 ((wrap64 (a0 + 719468)) - 146096)) 146097)))))) 1460)))) + (wrap64 (Int.tdiv (wrap64 ((wrap64 (a0 + 719468)) - (wrap64 (146097 * (wrap64 (Int.tdiv (wrap64 ((wrap64 (a0 + 719468)) - 146096)) 146097)))))) 36524)))) - (wrap64 (Int.tdiv (wrap64 ((wrap64 (a0 + 719468)) - (wrap64 (146097 * (wrap64 (Int.tdiv (wrap64 ((wrap64 (a0 + 719468)) - 146096)) 146097)))))) 146096)))) 365)))) + (wrap64 (Int.tdiv (wrap64 (Int.tdiv (wrap64 ((wrap64 ((wrap64 ((wrap64 ((wrap64 (a0 + 719468)) - (wrap64 (146097 * (wrap64 (Int.tdiv (wrap64 ((wrap64 (a0 + 719468)) - 146096)) 146097)))))) - (wrap64 (Int.tdiv (wrap64 ((wrap64 (a0 + 719468)) - (wrap64 (146097 * (wrap64 (Int.tdiv (wrap64 ((wrap64 (a0 + 719468)) - 146096)) 146097)))))) 1460)))) + (wrap64 (Int.tdiv (wrap64 ((wrap64 (a0 + 719468)) - (wrap64 (146097 * (wrap64 (Int.tdiv (wrap64 ((wrap64 (a0 + 719468)) - 146096)) 146097)))))) 36524)))) - (wrap64 (Int.tdiv (wrap64 ((wrap64 (a0 + 719468)) - (wrap64 (146097 * (wrap64 (Int.tdiv (wrap64 ((wrap64 (a0 + 719468)) - 146096)) 146097)))))) 146096)))) 365)) 4)))) - (wrap64 (Int.tdiv (wrap64 (Int.tdiv (wrap64 ((wrap64 ((wrap64 ((wrap64 ((wrap64 (a0 + 719468)) - (wrap64 (146097 * (wrap64 (Int.tdiv (wrap64 ((wrap64 (a0 + 719468)) - 146096)) 146097)))))) - (wrap64 (Int.tdiv (wrap64 ((wrap64 (a0 + 719468)) - (wrap64 (146097 * (wrap64 (Int.tdiv (wrap64 ((wrap64 (a0 + 719468)) - 146096)) 146097)))))) 1460)))) + (wrap64 (Int.tdiv (wrap64 ((wrap64 (a0 + 719468)) - (wrap64 (146097 * (wrap64 (Int.tdiv (wrap64 ((wrap64 (a0 + 719468)) - 146096)) 146097)))))) 36524)))) - (wrap64 (Int.tdiv (wrap64 ((wrap64 (a0 + 719468)) - (wrap64 (146097 * (wrap64 (Int.tdiv (wrap64 ((wrap64 (a0 + 719468)) - 146096)) 146097)))))) 146096)))) 365)) 100)))))))) + 2)) 153)))) + 2)) 5)))) + 1))) else (some (wrap64 ((wrap64 ((wrap64 (Int.tdiv (wrap64 ((wrap64 ((wrap64 ((wrap64 ((wrap64 (a0 + 719468)) - (wrap64 (146097 * (wrap64 (Int.tdiv (wrap64 ((wrap64 (a0 + 719468)) - 146096)) 146097)))))) - (wrap64 (Int.tdiv (wrap64 ((wrap64 (a0 + 719468)) - (wrap64 (146097 * (wrap64 (Int.tdiv (wrap64 ((wrap64 (a0 + 719468)) - 146096)) 146097)))))) 1460)))) + (wrap64 (Int.tdiv (wrap64 ((wrap64 (a0 + 719468)) - (wrap64 (146097 * (wrap64 (Int.tdiv (wrap64 ((wrap64 (a0 + 719468)) - 146096)) 146097)))))) 36524)))) - (wrap64 (Int.tdiv (wrap64 ((wrap64 (a0 + 719468)) - (wrap64 (146097 * (wrap64 (Int.tdiv (wrap64 ((wrap64 (a0 + 719468)) - 146096)) 146097)))))) 146096)))) 365)) + (wrap64 (400 * (wrap64 (Int.tdiv (wrap64 ((wrap64 (a0 + 719468)) - 146096)) 146097)))))) + 1), wrap64 ((wrap64 (Int.tdiv (wrap64 ((wrap64 (5 * (wrap64 ((wrap64 ((wrap64 (a0 + 719468)) - (wrap64 (146097 * (wrap64 (Int.tdiv (wrap64 ((wrap64 (a0 + 719468)) - 146096)) 146097)))))) - (wrap64 ((wrap64 ((wrap64 (365 * (wrap64 (Int.tdiv (wrap64 ((wrap64 ((wrap64 ((wrap64 ((wrap64 (a0 + 719468)) - (wrap64 (146097 * (wrap64 (Int.tdiv (wrap64 ((wrap64 (a0 + 719468)) - 146096)) 146097)))))) - (wrap64 (Int.tdiv (wrap64 ((wrap64 (a0 + 719468)) - (wrap64 (146097 * (wrap64 (Int.tdiv (wrap64 ((wrap64 (a0 + 719468)) - 146096)) 146097)))))) 1460)))) + (wrap64 (Int.tdiv (wrap64 ((wrap64 (a0 + 719468)) - (wrap64 (146097 * (wrap64 (Int.tdiv (wrap64 ((wrap64 (a0 + 719468)) - 146096)) 146097)))))) 36524)))) - (wrap64 (Int.tdiv (wrap64 ((wrap64 (a0 + 719468)) - (wrap64 (146097 * (wrap64 (Int.tdiv (wrap64 ((wrap64 (a0 + 719468)) - 146096)) 146097)))))) 146096)))) 365)))) + (wrap64 (Int.tdiv (wrap64 (Int.tdiv (wrap64 ((wrap64 ((wrap64 ((wrap64 ((wrap64 (a0 + 719468)) - (wrap64 (146097 * (wrap64 (Int.tdiv (wrap64 ((wrap64 (a0 + 719468)) - 146096)) 146097)))))) - (wrap64 (Int.tdiv (wrap64 ((wrap64 (a0 + 719468)) - (wrap64 (146097 * (wrap64 (Int.tdiv (wrap64 ((wrap64 (a0 + 719468)) - 146096)) 146097)))))) 1460)))) + (wrap64 (Int.tdiv (wrap64 ((wrap64 (a0 + 719468)) - (wrap64 (146097 * (wrap64 (Int.tdiv (wrap64 ((wrap64 (a0 + 719468)) - 146096)) 146097)))))) 36524)))) - (wrap64 (Int.tdiv (wrap64 ((wrap64 (a0 + 719468)) - (wrap64 (146097 * (wrap64 (Int.tdiv (wrap64 ((wrap64 (a0 + 719468)) - 146096)) 146097)))))) 146096)))) 365)) 4)))) - (wrap64 (Int.tdiv (wrap64 (Int.tdiv (wrap64 ((wrap64 ((wrap64 ((wrap64 ((wrap64 (a0 + 719468)) - (wrap64 (146097 * (wrap64 (Int.tdiv (wrap64 ((wrap64 (a0 + 719468)) - 146096)) 146097)))))) - (wrap64 (Int.tdiv (wrap64 ((wrap64 (a0 + 719468)) - (wrap64 (146097 * (wrap64 (Int.tdiv (wrap64 ((wrap64 (a0 + 719468)) - 146096)) 146097)))))) 1460)))) + (wrap64 (Int.tdiv (wrap64 ((wrap64 (a0 + 719468)) - (wrap64 (146097 * (wrap64 (Int.tdiv (wrap64 ((wrap64 (a0 + 719468)) - 146096)) 146097)))))) 36524)))) - (wrap64 (Int.tdiv (wrap64 ((wrap64 (a0 + 719468)) - (wrap64 (146097 * (wrap64 (Int.tdiv (wrap64 ((wrap64 (a0 + 719468)) - 146096)) 146097)))))) 146096)))) 365)) 100)))))))) + 2)) 153)) - 9), wrap64 ((wrap64 ((wrap64 ((wrap64 ((wrap64 (a0 + 719468)) - (wrap64 (146097 * (wrap64 (Int.tdiv (wrap64 ((wrap64 (a0 + 719468)) - 146096)) 146097)))))) - (wrap64 ((wrap64 ((wrap64 (365 * (wrap64 (Int.tdiv (wrap64 ((wrap64 ((wrap64 ((wrap64 ((wrap64 (a0 + 719468)) - (wrap64 (146097 * (wrap64 (Int.tdiv (wrap64 ((wrap64 (a0 + 719468)) - 146096)) 146097)))))) - (wrap64 (Int.tdiv (wrap64 ((wrap64 (a0 + 719468)) - (wrap64 (146097 * (wrap64 (Int.tdiv (wrap64 ((wrap64 (a0 + 719468)) - 146096)) 146097)))))) 1460)))) + (wrap64 (Int.tdiv (wrap64 ((wrap64 (a0 + 719468)) - (wrap64 (146097 * (wrap64 (Int.tdiv (wrap64 ((wrap64 (a0 + 719468)) - 146096)) 146097)))))) 36524)))) - (wrap64 (Int.tdiv (wrap64 ((wrap64 (a0 + 719468)) - (wrap64 (146097 * (wrap64 (Int.tdiv (wrap64 ((wrap64 (a0 + 719468)) - 146096)) 146097)))))) 146096)))) 365)))) + (wrap64 (Int.tdiv (wrap64 (Int.tdiv (wrap64 ((wrap64 ((wrap64 ((wrap64 ((wrap64 (a0 + 719468)) - (wrap64 (146097 * (wrap64 (Int.tdiv (wrap64 ((wrap64 (a0 + 719468)) - 146096)) 146097)))))) - (wrap64 (Int.tdiv (wrap64 ((wrap64 (a0 + 719468)) - (wrap64 (146097 * (wrap64 (Int.tdiv (wrap64 ((wrap64 (a0 + 719468)) - 146096)) 146097)))))) 1460)))) + (wrap64 (Int.tdiv (wrap64 ((wrap64 (a0 + 719468)) - (wrap64 (146097 * (wrap64 (Int.tdiv (wrap64 ((wrap64 (a0 + 719468)) - 146096)) 146097)))))) 36524)))) - (wrap64 (Int.tdiv (wrap64 ((wrap64 (a0 + 719468)) - (wrap64 (146097 * (wrap64 (Int.tdiv (wrap64 ((wrap64 (a0 + 719468)) - 146096)) 146097)))))) 146096)))) 365)) 4)))) - (wrap64 (Int.tdiv (wrap64 (Int.tdiv (wrap64 ((wrap64 ((wrap64 ((wrap64 ((wrap64 (a0 + 719468)) - (wrap64 (146097 * (wrap64 (Int.tdiv (wrap64 ((wrap64 (a0 + 719468)) - 146096)) 146097)))))) - (wrap64 (Int.tdiv (wrap64 ((wrap64 (a0 + 719468)) - (wrap64 (146097 * (wrap64 (Int.tdiv (wrap64 ((wrap64 (a0 + 719468)) - 146096)) 146097)))))) 1460)))) + (wrap64 (Int.tdiv (wrap64 ((wrap64 (a0 + 719468)) - (wrap64 (146097 * (wrap64 (Int.tdiv (wrap64 ((wrap64 (a0 + 719468)) - 146096)) 146097)))))) 36524)))) - (wrap64 (Int.tdiv (wrap64 ((wrap64 (a0 + 719468)) - (wrap64 (146097 * (wrap64 (Int.tdiv (wrap64 ((wrap64 (a0 + 719468)) - 146096)) 146097)))))) 146096)))) 365)) 100)))))) - (wrap64 (Int.tdiv (wrap64 ((wrap64 (153 * (wrap64 (Int.tdiv (wrap64 ((wrap64 (5 * (wrap64 ((wrap64 ((wrap64 (a0 + 719468)) - (wrap64 (146097 * (wrap64 (Int.tdiv (wrap64 ((wrap64 (a0 + 719468)) - 146096)) 146097)))))) - (wrap64 ((wrap64 ((wrap64 (365 * (wrap64 (Int.tdiv (wrap64 ((wrap64 ((wrap64 ((wrap64 ((wrap64 (a0 + 719468)) - (wrap64 (146097 * (wrap64 (Int.tdiv (wrap64 ((wrap64 (a0 + 719468)) - 146096)) 146097)))))) - (wrap64 (Int.tdiv (wrap64 ((wrap64 (a0 + 719468)) - (wrap64 (146097 * (wrap64 (Int.tdiv (wrap64 ((wrap64 (a0 + 719468)) - 146096)) 146097)))))) 1460)))) + (wrap64 (Int.tdiv (wrap64 ((wrap64 (a0 + 719468)) - (wrap64 (146097 * (wrap64 (Int.tdiv (wrap64 ((wrap64 (a0 + 719468)) - 146096)) 146097)))))) 36524)))) - (wrap64 (Int.tdiv (wrap64 ((wrap64 (a0 + 719468)) - (wrap64 (146097 * (wrap64 (Int.tdiv (wrap64 ((wrap64 (a0 + 719468)) - 146096)) 146097)))))) 146096)))) 365)))) + (wrap64 (Int.tdiv (wrap64 (Int.tdiv (wrap64 ((wrap64 ((wrap64 ((wrap64 ((wrap64 (a0 + 719468)) - (wrap64 (146097 * (wrap64 (Int.tdiv (wrap64 ((wrap64 (a0 + 719468)) - 146096)) 146097)))))) - (wrap64 (Int.tdiv (wrap64 ((wrap64 (a0 + 719468)) - (wrap64 (146097 * (wrap64 (Int.tdiv (wrap64 ((wrap64 (a0 + 719468)) - 146096)) 146097)))))) 1460)))) + (wrap64 (Int.tdiv (wrap64 ((wrap64 (a0 + 719468)) - (wrap64 (146097 * (wrap64 (Int.tdiv (wrap64 ((wrap64 (a0 + 719468)) - 146096)) 146097)))))) 36524)))) - (wrap64 (Int.tdiv (wrap64 ((wrap64 (a0 + 719468)) - (wrap64 (146097 * (wrap64 (Int.tdiv (wrap64 ((wrap64 (a0 + 719468)) - 146096)) 146097)))))) 146096)))) 365)) 4)))) - (wrap64 (Int.tdiv (wrap64 (Int.tdiv (wrap64 ((wrap64 ((wrap64 ((wrap64 ((wrap64 (a0 + 719468)) - (wrap64 (146097 * (wrap64 (Int.tdiv (wrap64 ((wrap64 (a0 + 719468)) - 146096)) 146097)))))) - (wrap64 (Int.tdiv (wrap64 ((wrap64 (a0 + 719468)) - (wrap64 (146097 * (wrap64 (Int.tdiv (wrap64 ((wrap64 (a0 + 719468)) - 146096)) 146097)))))) 1460)))) + (wrap64 (Int.tdiv (wrap64 ((wrap64 (a0 + 719468)) - (wrap64 (146097 * (wrap64 (Int.tdiv (wrap64 ((wrap64 (a0 + 719468)) - 146096)) 146097)))))) 36524)))) - (wrap64 (Int.tdiv (wrap64 ((wrap64 (a0 + 719468)) - (wrap64 (146097 * (wrap64 (Int.tdiv (wrap64 ((wrap64 (a0 + 719468)) - 146096)) 146097)))))) 146096)))) 365)) 100)))))))) + 2)) 153)))) + 2)) 5)))) + 1)))) else (if (wrap64 (Int.tdiv (wrap64 ((wrap64 (5 * (wrap64 ((wrap64 ((wrap64 (a0 + 719468)) - (wrap64 (146097 * (wrap64 (Int.tdiv (wrap64 (a0 + 719468)) 146097)))))) - (wrap64 ((wrap64 ((wrap64 (365 * (wrap64 (Int.tdiv (wrap64 ((wrap64 ((wrap64 ((wrap64 ((wrap64 (a0 + 719468)) - (wrap64 (146097 * (wrap64 (Int.tdiv (wrap64 (a0 + 719468)) 146097)))))) - (wrap64 (Int.tdiv (wrap64 ((wrap64 (a0 + 719468)) - (wrap64 (146097 * (wrap64 (Int.tdiv (wrap64 (a0 + 719468)) 146097)))))) 1460)))) + (wrap64 (Int.tdiv (wrap64 ((wrap64 (a0 + 719468)) - (wrap64 (146097 * (wrap64 (Int.tdiv (wrap64 (a0 + 719468)) 146097)))))) 36524)))) - (wrap64 (Int.tdiv (wrap64 ((wrap64 (a0 + 719468)) - (wrap64 (146097 * (wrap64 (Int.tdiv (wrap64 (a0 + 719468)) 146097)))))) 146096)))) 365)))) + (wrap64 (Int.tdiv (wrap64 (Int.tdiv (wrap64 ((wrap64 ((wrap64 ((wrap64 ((wrap64 (a0 + 719468)) - (wrap64 (146097 * (wrap64 (Int.tdiv (wrap64 (a0 + 719468)) 146097)))))) - (wrap64 (Int.tdiv (wrap64 ((wrap64 (a0 + 719468)) - (wrap64 (146097 * (wrap64 (Int.tdiv (wrap64 (a0 + 719468)) 146097)))))) 1460)))) + (wrap64 (Int.tdiv (wrap64 ((wrap64 (a0 + 719468)) - (wrap64 (146097 * (wrap64 (Int.tdiv (wrap64 (a0 + 719468)) 146097)))))) 36524)))) - (wrap64 (Int.tdiv (wrap64 ((wrap64 (a0 + 719468)) - (wrap64 (146097 * (wrap64 (Int.tdiv (wrap64 (a0 + 719468)) 146097)))))) 146096)))) 365)) 4)))) - (wrap64 (Int.tdiv (wrap64 (Int.tdiv (wrap64 ((wrap64 ((wrap64 ((wrap64 ((wrap64 (a0 + 719468)) - (wrap64 (146097 * (wrap64 (Int.tdiv (wrap64 (a0 + 719468)) 146097)))))) - (wrap64 (Int.tdiv (wrap64 ((wrap64 (a0 + 719468)) - (wrap64 (146097 * (wrap64 (Int.tdiv (wrap64 (a0 + 719468)) 146097)))))) 1460)))) + (wrap64 (Int.tdiv (wrap64 ((wrap64 (a0 + 719468)) - (wrap64 (146097 * (wrap64 (Int.tdiv (wrap64 (a0 + 719468)) 146097)))))) 36524)))) - (wrap64 (Int.tdiv (wrap64 ((wrap64 (a0 + 719468)) - (wrap64 (146097 * (wrap64 (Int.tdiv (wrap64 (a0 + 719468)) 146097)))))) 146096)))) 365)) 100)))))))) + 2)) 153)) < 10 then (some (wrap64 ((wrap64 (Int.tdiv (wrap64 ((wrap64 ((wrap64 ((wrap64 ((wrap64 (a0 + 719468)) - (wrap64 (146097 * (wrap64 (Int.tdiv (wrap64 (a0 + 719468)) 146097)))))) - (wrap64 (Int.tdiv (wrap64 ((wrap64 (a0 + 719468)) - (wrap64 (146097 * (wrap64 (Int.tdiv (wrap64 (a0 + 719468)) 146097)))))) 1460)))) + (wrap64 (Int.tdiv (wrap64 ((wrap64 (a0 + 719468)) - (wrap64 (146097 * (wrap64 (Int.tdiv (wrap64 (a0 + 719468)) 146097)))))) 36524)))) - (wrap64 (Int.tdiv (wrap64 ((wrap64 (a0 + 719468)) - (wrap64 (146097 * (wrap64 (Int.tdiv (wrap64 (a0 + 719468)) 146097)))))) 146096)))) 365)) + (wrap64 (400 * (wrap64 (Int.tdiv (wrap64 (a0 + 719468)) 146097))))), wrap64 ((wrap64 (Int.tdiv (wrap64 ((wrap64 (5 * (wrap64 ((wrap64 ((wrap64 (a0 + 719468)) - (wrap64 (146097 * (wrap64 (Int.tdiv (wrap64 (a0 + 719468)) 146097)))))) - (wrap64 ((wrap64 ((wrap64 (365 * (wrap64 (Int.tdiv (wrap64 ((wrap64 ((wrap64 ((wrap64 ((wrap64 (a0 + 719468)) - (wrap64 (146097 * (wrap64 (Int.tdiv (wrap64 (a0 + 719468)) 146097)))))) - (wrap64 (Int.tdiv (wrap64 ((wrap64 (a0 + 719468)) - (wrap64 (146097 * (wrap64 (Int.tdiv (wrap64 (a0 + 719468)) 146097)))))) 1460)))) + (wrap64 (Int.tdiv (wrap64 ((wrap64 (a0 + 719468)) - (wrap64 (146097 * (wrap64 (Int.tdiv (wrap64 (a0 + 719468)) 146097)))))) 36524)))) - (wrap64 (Int.tdiv (wrap64 ((wrap64 (a0 + 719468)) - (wrap64 (146097 * (wrap64 (Int.tdiv (wrap64 (a0 + 719468)) 146097)))))) 146096)))) 365)))) + (wrap64 (Int.tdiv (wrap64 (Int.tdiv (wrap64 ((wrap64 ((wrap64 ((wrap64 ((wrap64 (a0 + 719468)) - (wrap64 (146097 * (wrap64 (Int.tdiv (wrap64 (a0 + 719468)) 146097)))))) - (wrap64 (Int.tdiv (wrap64 ((wrap64 (a0 + 719468)) - (wrap64 (146097 * (wrap64 (Int.tdiv (wrap64 (a0 + 719468)) 146097)))))) 1460)))) + (wrap64 (Int.tdiv (wrap64 ((wrap64 (a0 + 719468)) - (wrap64 (146097 * (wrap64 (Int.tdiv (wrap64 (a0 + 719468)) 146097)))))) 36524)))) - (wrap64 (Int.tdiv (wrap64 ((wrap64 (a0 + 719468)) - (wrap64 (146097 * (wrap64 (Int.tdiv (wrap64 (a0 + 719468)) 146097)))))) 146096)))) 365)) 4)))) - (wrap64 (Int.tdiv (wrap64 (Int.tdiv (wrap64 ((wrap64 ((wrap64 ((wrap64 ((wrap64 (a0 + 719468)) - (wrap64 (146097 * (wrap64 (Int.tdiv (wrap64 (a0 + 719468)) 146097)))))) - (wrap64 (Int.tdiv (wrap64 ((wrap64 (a0 + 719468)) - (wrap64 (146097 * (wrap64 (Int.tdiv (wrap64 (a0 + 719468)) 146097)))))) 1460)))) + (wrap64 (Int.tdiv (wrap64 ((wrap64 (a0 + 719468)) - (wrap64 (146097 * (wrap64 (Int.tdiv (wrap64 (a0 + 719468)) 146097)))))) 36524)))) - (wrap64 (Int.tdiv (wrap64 ((wrap64 (a0 + 719468)) - (wrap64 (146097 * (wrap64 (Int.tdiv (wrap64 (a0 + 719468)) 146097)))))) 146096)))) 365)) 100)))))))) + 2)) 153)) + 3), wrap64 ((wrap64 ((wrap64 ((wrap64 ((wrap64 (a0 + 719468)) - (wrap64 (146097 * (wrap64 (Int.tdiv (wrap64 (a0 + 719468)) 146097)))))) - (wrap64 ((wrap64 ((wrap64 (365 * (wrap64 (Int.tdiv (wrap64 ((wrap64 ((wrap64 ((wrap64 ((wrap64 (a0 + 719468)) - (wrap64 (146097 * (wrap64 (Int.tdiv (wrap64 (a0 + 719468)) 146097)))))) - (wrap64 (Int.tdiv (wrap64 ((wrap64 (a0 + 719468)) - (wrap64 (146097 * (wrap64 (Int.tdiv (wrap64 (a0 + 719468)) 146097)))))) 1460)))) + (wrap64 (Int.tdiv (wrap64 ((wrap64 (a0 + 719468)) - (wrap64 (146097 * (wrap64 (Int.tdiv (wrap64 (a0 + 719468)) 146097)))))) 36524)))) - (wrap64 (Int.tdiv (wrap64 ((wrap64 (a0 + 719468)) - (wrap64 (146097 * (wrap64 (Int.tdiv (wrap64 (a0 + 719468)) 146097)))))) 146096)))) 365)))) + (wrap64 (Int.tdiv (wrap64 (Int.tdiv (wrap64 ((wrap64 ((wrap64 ((wrap64 ((wrap64 (a0 + 719468)) - (wrap64 (146097 * (wrap64 (Int.tdiv (wrap64 (a0 + 719468)) 146097)))))) - (wrap64 (Int.tdiv (wrap64 ((wrap64 (a0 + 719468)) - (wrap64 (146097 * (wrap64 (Int.tdiv (wrap64 (a0 + 719468)) 146097)))))) 1460)))) + (wrap64 (Int.tdiv (wrap64 ((wrap64 (a0 + 719468)) - (wrap64 (146097 * (wrap64 (Int.tdiv (wrap64 (a0 + 719468)) 146097)))))) 36524)))) - (wrap64 (Int.tdiv (wrap64 ((wrap64 (a0 + 719468)) - (wrap64 (146097 * (wrap64 (Int.tdiv (wrap64 (a0 + 719468)) 146097)))))) 146096)))) 365)) 4)))) - (wrap64 (Int.tdiv (wrap64 (Int.tdiv (wrap64 ((wrap64 ((wrap64 ((wrap64 ((wrap64 (a0 + 719468)) - (wrap64 (146097 * (wrap64 (Int.tdiv (wrap64 (a0 + 719468)) 146097)))))) - (wrap64 (Int.tdiv (wrap64 ((wrap64 (a0 + 719468)) - (wrap64 (146097 * (wrap64 (Int.tdiv (wrap64 (a0 + 719468)) 146097)))))) 1460)))) + (wrap64 (Int.tdiv (wrap64 ((wrap64 (a0 + 719468)) - (wrap64 (146097 * (wrap64 (Int.tdiv (wrap64 (a0 + 719468)) 146097)))))) 36524)))) - (wrap64 (Int.tdiv (wrap64 ((wrap64 (a0 + 719468)) - (wrap64 (146097 * (wrap64 (Int.tdiv (wrap64 (a0 + 719468)) 146097)))))) 146096)))) 365)) 100)))))) - (wrap64 (Int.tdiv (wrap64 ((wrap64 (153 * (wrap64 (Int.tdiv (wrap64 ((wrap64 (5 * (wrap64 ((wrap64 ((wrap64 (a0 + 719468)) - (wrap64 (146097 * (wrap64 (Int.tdiv (wrap64 (a0 + 719468)) 146097)))))) - (wrap64 ((wrap64 ((wrap64 (365 * (wrap64 (Int.tdiv (wrap64 ((wrap64 ((wrap64 ((wrap64 ((wrap64 (a0 + 719468)) - (wrap64 (146097 * (wrap64 (Int.tdiv (wrap64 (a0 + 719468)) 146097)))))) - (wrap64 (Int.tdiv (wrap64 ((wrap64 (a0 + 719468)) - (wrap64 (146097 * (wrap64 (Int.tdiv (wrap64 (a0 + 719468)) 146097)))))) 1460)))) + (wrap64 (Int.tdiv (wrap64 ((wrap64 (a0 + 719468)) - (wrap64 (146097 * (wrap64 (Int.tdiv (wrap64 (a0 + 719468)) 146097)))))) 36524)))) - (wrap64 (Int.tdiv (wrap64 ((wrap64 (a0 + 719468)) - (wrap64 (146097 * (wrap64 (Int.tdiv (wrap64 (a0 + 719468)) 146097)))))) 146096)))) 365)))) + (wrap64 (Int.tdiv (wrap64 (Int.tdiv (wrap64 ((wrap64 ((wrap64 ((wrap64 ((wrap64 (a0 + 719468)) - (wrap64 (146097 * (wrap64 (Int.tdiv (wrap64 (a0 + 719468)) 146097)))))) - (wrap64 (Int.tdiv (wrap64 ((wrap64 (a0 + 719468)) - (wrap64 (146097 * (wrap64 (Int.tdiv (wrap64 (a0 + 719468)) 146097)))))) 1460)))) + (wrap64 (Int.tdiv (wrap64 ((wrap64 (a0 + 719468)) - (wrap64 (146097 * (wrap64 (Int.tdiv (wrap64 (a0 + 719468)) 146097)))))) 36524)))) - (wrap64 (Int.tdiv (wrap64 ((wrap64 (a0 + 719468)) - (wrap64 (146097 * (wrap64 (Int.tdiv (wrap64 (a0 + 719468)) 146097)))))) 146096)))) 365)) 4)))) - (wrap64 (Int.tdiv (wrap64 (Int.tdiv (wrap64 ((wrap64 ((wrap64 ((wrap64 ((wrap64 (a0 + 719468)) - (wrap64 (146097 * (wrap64 (Int.tdiv (wrap64 (a0 + 719468)) 146097)))))) - (wrap64 (Int.tdiv (wrap64 ((wrap64 (a0 + 719468)) - (wrap64 (146097 * (wrap64 (Int.tdiv (wrap64 (a0 + 719468)) 146097)))))) 1460)))) + (wrap64 (Int.tdiv (wrap64 ((wrap64 (a0 + 719468)) - (wrap64 (146097 * (wrap64 (Int.tdiv (wrap64 (a0 + 719468)) 146097)))))) 36524)))) - (wrap64 (Int.tdiv (wrap64 ((wrap64 (a0 + 719468)) - (wrap64 (146097 * (wrap64 (Int.tdiv (wrap64 (a0 + 719468)) 146097)))))) 146096)))) 365)) 100)))))))) + 2)) 153)))) + 2)) 5)))) + 1))) else (some (wrap64 ((wrap64 ((wrap64 (Int.tdiv (wrap64 ((wrap64 ((wrap64 ((wrap64 ((wrap64 (a0 + 719468)) - (wrap64 (146097 * (wrap64 (Int.tdiv (wrap64 (a0 + 719468)) 146097)))))) - (wrap64 (Int.tdiv (wrap64 ((wrap64 (a0 + 719468)) - (wrap64 (146097 * (wrap64 (Int.tdiv (wrap64 (a0 + 719468)) 146097)))))) 1460)))) + (wrap64 (Int.tdiv (wrap64 ((wrap64 (a0 + 719468)) - (wrap64 (146097 * (wrap64 (Int.tdiv (wrap64 (a0 + 719468)) 146097)))))) 36524)))) - (wrap64 (Int.tdiv (wrap64 ((wrap64 (a0 + 719468)) - (wrap64 (146097 * (wrap64 (Int.tdiv (wrap64 (a0 + 719468)) 146097)))))) 146096)))) 365)) + (wrap64 (400 * (wrap64 (Int.tdiv (wrap64 (a0 + 719468)) 146097)))))) + 1), wrap64 ((wrap64 (Int.tdiv (wrap64 ((wrap64 (5 * (wrap64 ((wrap64 ((wrap64 (a0 + 719468)) - (wrap64 (146097 * (wrap64 (Int.tdiv (wrap64 (a0 + 719468)) 146097)))))) - (wrap64 ((wrap64 ((wrap64 (365 * (wrap64 (Int.tdiv (wrap64 ((wrap64 ((wrap64 ((wrap64 ((wrap64 (a0 + 719468)) - (wrap64 (146097 * (wrap64 (Int.tdiv (wrap64 (a0 + 719468)) 146097)))))) - (wrap64 (Int.tdiv (wrap64 ((wrap64 (a0 + 719468)) - (wrap64 (146097 * (wrap64 (Int.tdiv (wrap64 (a0 + 719468)) 146097)))))) 1460)))) + (wrap64 (Int.tdiv (wrap64 ((wrap64 (a0 + 719468)) - (wrap64 (146097 * (wrap64 (Int.tdiv (wrap64 (a0 + 719468)) 146097)))))) 36524)))) - (wrap64 (Int.tdiv (wrap64 ((wrap64 (a0 + 719468)) - (wrap64 (146097 * (wrap64 (Int.tdiv (wrap64 (a0 + 719468)) 146097)))))) 146096)))) 365)))) + (wrap64 (Int.tdiv (wrap64 (Int.tdiv (wrap64 ((wrap64 ((wrap64 ((wrap64 ((wrap64 (a0 + 719468)) - (wrap64 (146097 * (wrap64 (Int.tdiv (wrap64 (a0 + 719468)) 146097)))))) - (wrap64 (Int.tdiv (wrap64 ((wrap64 (a0 + 719468)) - (wrap64 (146097 * (wrap64 (Int.tdiv (wrap64 (a0 + 719468)) 146097)))))) 1460)))) + (wrap64 (Int.tdiv (wrap64 ((wrap64 (a0 + 719468)) - (wrap64 (146097 * (wrap64 (Int.tdiv (wrap64 (a0 + 719468)) 146097)))))) 36524)))) - (wrap64 (Int.tdiv (wrap64 ((wrap64 (a0 + 719468)) - (wrap64 (146097 * (wrap64 (Int.tdiv (wrap64 (a0 + 719468)) 146097)))))) 146096)))) 365)) 4)))) - (wrap64 (Int.tdiv (wrap64 (Int.tdiv (wrap64 ((wrap64 ((wrap64 ((wrap64 ((wrap64 (a0 + 719468)) - (wrap64 (146097 * (wrap64 (Int.tdiv (wrap64 (a0 + 719468)) 146097)))))) - (wrap64 (Int.tdiv (wrap64 ((wrap64 (a0 + 719468)) - (wrap64 (146097 * (wrap64 (Int.tdiv (wrap64 (a0 + 719468)) 146097)))))) 1460)))) + (wrap64 (Int.tdiv (wrap64 ((wrap64 (a0 + 719468)) - (wrap64 (146097 * (wrap64 (Int.tdiv (wrap64 (a0 + 719468)) 146097)))))) 36524)))) - (wrap64 (Int.tdiv (wrap64 ((wrap64 (a0 + 719468)) - (wrap64 (146097 * (wrap64 (Int.tdiv (wrap64 (a0 + 719468)) 146097)))))) 146096)))) 365)) 100)))))))) + 2)) 153)) - 9), wrap64 ((wrap64 ((wrap64 ((wrap64 ((wrap64 (a0 + 719468)) - (wrap64 (146097 * (wrap64 (Int.tdiv (wrap64 (a0 + 719468)) 146097)))))) - (wrap64 ((wrap64 ((wrap64 (365 * (wrap64 (Int.tdiv (wrap64 ((wrap64 ((wrap64 ((wrap64 ((wrap64 (a0 + 719468)) - (wrap64 (146097 * (wrap64 (Int.tdiv (wrap64 (a0 + 719468)) 146097)))))) - (wrap64 (Int.tdiv (wrap64 ((wrap64 (a0 + 719468)) - (wrap64 (146097 * (wrap64 (Int.tdiv (wrap64 (a0 + 719468)) 146097)))))) 1460)))) + (wrap64 (Int.tdiv (wrap64 ((wrap64 (a0 + 719468)) - (wrap64 (146097 * (wrap64 (Int.tdiv (wrap64 (a0 + 719468)) 146097)))))) 36524)))) - (wrap64 (Int.tdiv (wrap64 ((wrap64 (a0 + 719468)) - (wrap64 (146097 * (wrap64 (Int.tdiv (wrap64 (a0 + 719468)) 146097)))))) 146096)))) 365)))) + (wrap64 (Int.tdiv (wrap64 (Int.tdiv (wrap64 ((wrap64 ((wrap64 ((wrap64 ((wrap64 (a0 + 719468)) - (wrap64 (146097 * (wrap64 (Int.tdiv (wrap64 (a0 + 719468)) 146097)))))) - (wrap64 (Int.tdiv (wrap64 ((wrap64 (a0 + 719468)) - (wrap64 (146097 * (wrap64 (Int.tdiv (wrap64 (a0 + 719468)) 146097)))))) 1460)))) + (wrap64 (Int.tdiv (wrap64 ((wrap64 (a0 + 719468)) - (wrap64 (146097 * (wrap64 (Int.tdiv (wrap64 (a0 + 719468)) 146097)))))) 36524)))) - (wrap64 (Int.tdiv (wrap64 ((wrap64 (a0 + 719468)) - (wrap64 (146097 * (wrap64 (Int.tdiv (wrap64 (a0 + 719468)) 146097)))))) 146096)))) 365)) 4)))) - (wrap64 (Int.tdiv (wrap64 (Int.tdiv (wrap64 ((wrap64 ((wrap64 ((wrap64 ((wrap64 (a0 + 719468)) - (wrap64 (146097 * (wrap64 (Int.tdiv (wrap64 (a0 + 719468)) 146097)))))) - (wrap64 (Int.tdiv (wrap64 ((wrap64 (a0 + 719468)) - (wrap64 (146097 * (wrap64 (Int.tdiv (wrap64 (a0 + 719468)) 146097)))))) 1460)))) + (wrap64 (Int.tdiv (wrap64 ((wrap64 (a0 + 719468)) - (wrap64 (146097 * (wrap64 (Int.tdiv (wrap64 (a0 + 719468)) 146097)))))) 36524)))) - (wrap64 (Int.tdiv (wrap64 ((wrap64 (a0 + 719468)) - (wrap64 (146097 * (wrap64 (Int.tdiv (wrap64 (a0 + 719468)) 146097)))))) 146096)))) 365)) 100)))))) - (wrap64 (Int.tdiv (wrap64 ((wrap64 (153 * (wrap64 (Int.tdiv (wrap64 ((wrap64 (5 * (wrap64 ((wrap64 ((wrap64 (a0 + 719468)) - (wrap64 (146097 * (wrap64 (Int.tdiv (wrap64 (a0 + 719468)) 146097)))))) - (wrap64 ((wrap64 ((wrap64 (365 * (wrap64 (Int.tdiv (wrap64 ((wrap64 ((wrap64 ((wrap64 ((wrap64 (a0 + 719468)) - (wrap64 (146097 * (wrap64 (Int.tdiv (wrap64 (a0 + 719468)) 146097)))))) - (wrap64 (Int.tdiv (wrap64 ((wrap64 (a0 + 719468)) - (wrap64 (146097 * (wrap64 (Int.tdiv (wrap64 (a0 + 719468)) 146097)))))) 1460)))) + (wrap64 (Int.tdiv (wrap64 ((wrap64 (a0 + 719468)) - (wrap64 (146097 * (wrap64 (Int.tdiv (wrap64 (a0 + 719468)) 146097)))))) 36524)))) - (wrap64 (Int.tdiv (wrap64 ((wrap64 (a0 + 719468)) - (wrap64 (146097 * (wrap64 (Int.tdiv (wrap64 (a0 + 719468)) 146097)))))) 146096)))) 365)))) + (wrap64 (Int.tdiv (wrap64 (Int.tdiv (wrap64 ((wrap64 ((wrap64 ((wrap64 ((wrap64 (a0 + 719468)) - (wrap64 (146097 * (wrap64 (Int.tdiv (wrap64 (a0 + 719468)) 146097)))))) - (wrap64 (Int.tdiv (wrap64 ((wrap64 (a0 + 719468)) - (wrap64 (146097 * (wrap64 (Int.tdiv (wrap64 (a0 + 719468)) 146097)))))) 1460)))) + (wrap64 (Int.tdiv (wrap64 ((wrap64 (a0 + 719468)) - (wrap64 (146097 * (wrap64 (Int.tdiv (wrap64 (a0 + 719468)) 146097)))))) 36524)))) - (wrap64 (Int.tdiv (wrap64 ((wrap64 (a0 + 719468)) - (wrap64 (146097 * (wrap64 (Int.tdiv (wrap64 (a0 + 719468)) 146097)))))) 146096)))) 365)) 4)))) - (wrap64 (Int.tdiv (wrap64 (Int.tdiv (wrap64 ((wrap64 ((wrap64 ((wrap64 ((wrap64 (a0 + 719468)) - (wrap64 (146097 * (wrap64 (Int.tdiv (wrap64 (a0 + 719468)) 146097)))))) - (wrap64 (Int.tdiv (wrap64 ((wrap64 (a0 + 719468)) - (wrap64 (146097 * (wrap64 (Int.tdiv (wrap64 (a0 + 719468)) 146097)))))) 1460)))) + (wrap64 (Int.tdiv (wrap64 ((wrap64 (a0 + 719468)) - (wrap64 (146097 * (wrap64 (Int.tdiv (wrap64 (a0 + 719468)) 146097)))))) 36524)))) - (wrap64 (Int.tdiv (wrap64 ((wrap64 (a0 + 719468)) - (wrap64 (146097 * (wrap64 (Int.tdiv (wrap64 (a0 + 719468)) 146097)))))) 146096)))) 365)) 100)))))))) + 2)) 153)))) + 2)) 5)))) + 1))))
set_option maxHeartbeats 8000000 in
set_option maxRecDepth 100000 in
theorem list_date.calls (a0 : Int) (r1 : Int) (r2 : Int) (r3 : Int) (w : World) (h : list_date.f a0 = some (r1, r2, r3)) :
    Calls Try.prog 31 #[.int .i64 a0] w fun e w' => e = .returned (.tuple #[.int .i64 r1, .int .i64 r2, .int .i64 r3]) ∧ Drawn0 w w' := by
  have H : (if (wrap64 (a0 + 719468)) < 0 then (if (wrap64 (Int.tdiv (wrap64 ((wrap64 (5 * (wrap64 ((wrap64 ((wrap64 (a0 + 719468)) - (wrap64 (146097 * (wrap64 (Int.tdiv (wrap64 ((wrap64 (a0 + 719468)) - 146096)) 146097)))))) - (wrap64 ((wrap64 ((wrap64 (365 * (wrap64 (Int.tdiv (wrap64 ((wrap64 ((wrap64 ((wrap64 ((wrap64 (a0 + 719468)) - (wrap64 (146097 * (wrap64 (Int.tdiv (wrap64 ((wrap64 (a0 + 719468)) - 146096)) 146097)))))) - (wrap64 (Int.tdiv (wrap64 ((wrap64 (a0 + 719468)) - (wrap64 (146097 * (wrap64 (Int.tdiv (wrap64 ((wrap64 (a0 + 719468)) - 146096)) 146097)))))) 1460)))) + (wrap64 (Int.tdiv (wrap64 ((wrap64 (a0 + 719468)) - (wrap64 (146097 * (wrap64 (Int.tdiv (wrap64 ((wrap64 (a0 + 719468)) - 146096)) 146097)))))) 36524)))) - (wrap64 (Int.tdiv (wrap64 ((wrap64 (a0 + 719468)) - (wrap64 (146097 * (wrap64 (Int.tdiv (wrap64 ((wrap64 (a0 + 719468)) - 146096)) 146097)))))) 146096)))) 365)))) + (wrap64 (Int.tdiv (wrap64 (Int.tdiv (wrap64 ((wrap64 ((wrap64 ((wrap64 ((wrap64 (a0 + 719468)) - (wrap64 (146097 * (wrap64 (Int.tdiv (wrap64 ((wrap64 (a0 + 719468)) - 146096)) 146097)))))) - (wrap64 (Int.tdiv (wrap64 ((wrap64 (a0 + 719468)) - (wrap64 (146097 * (wrap64 (Int.tdiv (wrap64 ((wrap64 (a0 + 719468)) - 146096)) 146097)))))) 1460)))) + (wrap64 (Int.tdiv (wrap64 ((wrap64 (a0 + 719468)) - (wrap64 (146097 * (wrap64 (Int.tdiv (wrap64 ((wrap64 (a0 + 719468)) - 146096)) 146097)))))) 36524)))) - (wrap64 (Int.tdiv (wrap64 ((wrap64 (a0 + 719468)) - (wrap64 (146097 * (wrap64 (Int.tdiv (wrap64 ((wrap64 (a0 + 719468)) - 146096)) 146097)))))) 146096)))) 365)) 4)))) - (wrap64 (Int.tdiv (wrap64 (Int.tdiv (wrap64 ((wrap64 ((wrap64 ((wrap64 ((wrap64 (a0 + 719468)) - (wrap64 (146097 * (wrap64 (Int.tdiv (wrap64 ((wrap64 (a0 + 719468)) - 146096)) 146097)))))) - (wrap64 (Int.tdiv (wrap64 ((wrap64 (a0 + 719468)) - (wrap64 (146097 * (wrap64 (Int.tdiv (wrap64 ((wrap64 (a0 + 719468)) - 146096)) 146097)))))) 1460)))) + (wrap64 (Int.tdiv (wrap64 ((wrap64 (a0 + 719468)) - (wrap64 (146097 * (wrap64 (Int.tdiv (wrap64 ((wrap64 (a0 + 719468)) - 146096)) 146097)))))) 36524)))) - (wrap64 (Int.tdiv (wrap64 ((wrap64 (a0 + 719468)) - (wrap64 (146097 * (wrap64 (Int.tdiv (wrap64 ((wrap64 (a0 + 719468)) - 146096)) 146097)))))) 146096)))) 365)) 100)))))))) + 2)) 153)) < 10 then (some (wrap64 ((wrap64 (Int.tdiv (wrap64 ((wrap64 ((wrap64 ((wrap64 ((wrap64 (a0 + 719468)) - (wrap64 (146097 * (wrap64 (Int.tdiv (wrap64 ((wrap64 (a0 + 719468)) - 146096)) 146097)))))) - (wrap64 (Int.tdiv (wrap64 ((wrap64 (a0 + 719468)) - (wrap64 (146097 * (wrap64 (Int.tdiv (wrap64 ((wrap64 (a0 + 719468)) - 146096)) 146097)))))) 1460)))) + (wrap64 (Int.tdiv (wrap64 ((wrap64 (a0 + 719468)) - (wrap64 (146097 * (wrap64 (Int.tdiv (wrap64 ((wrap64 (a0 + 719468)) - 146096)) 146097)))))) 36524)))) - (wrap64 (Int.tdiv (wrap64 ((wrap64 (a0 + 719468)) - (wrap64 (146097 * (wrap64 (Int.tdiv (wrap64 ((wrap64 (a0 + 719468)) - 146096)) 146097)))))) 146096)))) 365)) + (wrap64 (400 * (wrap64 (Int.tdiv (wrap64 ((wrap64 (a0 + 719468)) - 146096)) 146097))))), wrap64 ((wrap64 (Int.tdiv (wrap64 ((wrap64 (5 * (wrap64 ((wrap64 ((wrap64 (a0 + 719468)) - (wrap64 (146097 * (wrap64 (Int.tdiv (wrap64 ((wrap64 (a0 + 719468)) - 146096)) 146097)))))) - (wrap64 ((wrap64 ((wrap64 (365 * (wrap64 (Int.tdiv (wrap64 ((wrap64 ((wrap64 ((wrap64 ((wrap64 (a0 + 719468)) - (wrap64 (146097 * (wrap64 (Int.tdiv (wrap64 ((wrap64 (a0 + 719468)) - 146096)) 146097)))))) - (wrap64 (Int.tdiv (wrap64 ((wrap64 (a0 + 719468)) - (wrap64 (146097 * (wrap64 (Int.tdiv (wrap64 ((wrap64 (a0 + 719468)) - 146096)) 146097)))))) 1460)))) + (wrap64 (Int.tdiv (wrap64 ((wrap64 (a0 + 719468)) - (wrap64 (146097 * (wrap64 (Int.tdiv (wrap64 ((wrap64 (a0 + 719468)) - 146096)) 146097)))))) 36524)))) - (wrap64 (Int.tdiv (wrap64 ((wrap64 (a0 + 719468)) - (wrap64 (146097 * (wrap64 (Int.tdiv (wrap64 ((wrap64 (a0 + 719468)) - 146096)) 146097)))))) 146096)))) 365)))) + (wrap64 (Int.tdiv (wrap64 (Int.tdiv (wrap64 ((wrap64 ((wrap64 ((wrap64 ((wrap64 (a0 + 719468)) - (wrap64 (146097 * (wrap64 (Int.tdiv (wrap64 ((wrap64 (a0 + 719468)) - 146096)) 146097)))))) - (wrap64 (Int.tdiv (wrap64 ((wrap64 (a0 + 719468)) - (wrap64 (146097 * (wrap64 (Int.tdiv (wrap64 ((wrap64 (a0 + 719468)) - 146096)) 146097)))))) 1460)))) + (wrap64 (Int.tdiv (wrap64 ((wrap64 (a0 + 719468)) - (wrap64 (146097 * (wrap64 (Int.tdiv (wrap64 ((wrap64 (a0 + 719468)) - 146096)) 146097)))))) 36524)))) - (wrap64 (Int.tdiv (wrap64 ((wrap64 (a0 + 719468)) - (wrap64 (146097 * (wrap64 (Int.tdiv (wrap64 ((wrap64 (a0 + 719468)) - 146096)) 146097)))))) 146096)))) 365)) 4)))) - (wrap64 (Int.tdiv (wrap64 (Int.tdiv (wrap64 ((wrap64 ((wrap64 ((wrap64 ((wrap64 (a0 + 719468)) - (wrap64 (146097 * (wrap64 (Int.tdiv (wrap64 ((wrap64 (a0 + 719468)) - 146096)) 146097)))))) - (wrap64 (Int.tdiv (wrap64 ((wrap64 (a0 + 719468)) - (wrap64 (146097 * (wrap64 (Int.tdiv (wrap64 ((wrap64 (a0 + 719468)) - 146096)) 146097)))))) 1460)))) + (wrap64 (Int.tdiv (wrap64 ((wrap64 (a0 + 719468)) - (wrap64 (146097 * (wrap64 (Int.tdiv (wrap64 ((wrap64 (a0 + 719468)) - 146096)) 146097)))))) 36524)))) - (wrap64 (Int.tdiv (wrap64 ((wrap64 (a0 + 719468)) - (wrap64 (146097 * (wrap64 (Int.tdiv (wrap64 ((wrap64 (a0 + 719468)) - 146096)) 146097)))))) 146096)))) 365)) 100)))))))) + 2)) 153)) + 3), wrap64 ((wrap64 ((wrap64 ((wrap64 ((wrap64 (a0 + 719468)) - (wrap64 (146097 * (wrap64 (Int.tdiv (wrap64 ((wrap64 (a0 + 719468)) - 146096)) 146097)))))) - (wrap64 ((wrap64 ((wrap64 (365 * (wrap64 (Int.tdiv (wrap64 ((wrap64 ((wrap64 ((wrap64 ((wrap64 (a0 + 719468)) - (wrap64 (146097 * (wrap64 (Int.tdiv (wrap64 ((wrap64 (a0 + 719468)) - 146096)) 146097)))))) - (wrap64 (Int.tdiv (wrap64 ((wrap64 (a0 + 719468)) - (wrap64 (146097 * (wrap64 (Int.tdiv (wrap64 ((wrap64 (a0 + 719468)) - 146096)) 146097)))))) 1460)))) + (wrap64 (Int.tdiv (wrap64 ((wrap64 (a0 + 719468)) - (wrap64 (146097 * (wrap64 (Int.tdiv (wrap64 ((wrap64 (a0 + 719468)) - 146096)) 146097)))))) 36524)))) - (wrap64 (Int.tdiv (wrap64 ((wrap64 (a0 + 719468)) - (wrap64 (146097 * (wrap64 (Int.tdiv (wrap64 ((wrap64 (a0 + 719468)) - 146096)) 146097)))))) 146096)))) 365)))) + (wrap64 (Int.tdiv (wrap64 (Int.tdiv (wrap64 ((wrap64 ((wrap64 ((wrap64 ((wrap64 (a0 + 719468)) - (wrap64 (146097 * (wrap64 (Int.tdiv (wrap64 ((wrap64 (a0 + 719468)) - 146096)) 146097)))))) - (wrap64 (Int.tdiv (wrap64 ((wrap64 (a0 + 719468)) - (wrap64 (146097 * (wrap64 (Int.tdiv (wrap64 ((wrap64 (a0 + 719468)) - 146096)) 146097)))))) 1460)))) + (wrap64 (Int.tdiv (wrap64 ((wrap64 (a0 + 719468)) - (wrap64 (146097 * (wrap64 (Int.tdiv (wrap64 ((wrap64 (a0 + 719468)) - 146096)) 146097)))))) 36524)))) - (wrap64 (Int.tdiv (wrap64 ((wrap64 (a0 + 719468)) - (wrap64 (146097 * (wrap64 (Int.tdiv (wrap64 ((wrap64 (a0 + 719468)) - 146096)) 146097)))))) 146096)))) 365)) 4)))) - (wrap64 (Int.tdiv (wrap64 (Int.tdiv (wrap64 ((wrap64 ((wrap64 ((wrap64 ((wrap64 (a0 + 719468)) - (wrap64 (146097 * (wrap64 (Int.tdiv (wrap64 ((wrap64 (a0 + 719468)) - 146096)) 146097)))))) - (wrap64 (Int.tdiv (wrap64 ((wrap64 (a0 + 719468)) - (wrap64 (146097 * (wrap64 (Int.tdiv (wrap64 ((wrap64 (a0 + 719468)) - 146096)) 146097)))))) 1460)))) + (wrap64 (Int.tdiv (wrap64 ((wrap64 (a0 + 719468)) - (wrap64 (146097 * (wrap64 (Int.tdiv (wrap64 ((wrap64 (a0 + 719468)) - 146096)) 146097)))))) 36524)))) - (wrap64 (Int.tdiv (wrap64 ((wrap64 (a0 + 719468)) - (wrap64 (146097 * (wrap64 (Int.tdiv (wrap64 ((wrap64 (a0 + 719468)) - 146096)) 146097)))))) 146096)))) 365)) 100)))))) - (wrap64 (Int.tdiv (wrap64 ((wrap64 (153 * (wrap64 (Int.tdiv (wrap64 ((wrap64 (5 * (wrap64 ((wrap64 ((wrap64 (a0 + 719468)) - (wrap64 (146097 * (wrap64 (Int.tdiv (wrap64 ((wrap64 (a0 + 719468)) - 146096)) 146097)))))) - (wrap64 ((wrap64 ((wrap64 (365 * (wrap64 (Int.tdiv (wrap64 ((wrap64 ((wrap64 ((wrap64 ((wrap64 (a0 + 719468)) - (wrap64 (146097 * (wrap64 (Int.tdiv (wrap64 ((wrap64 (a0 + 719468)) - 146096)) 146097)))))) - (wrap64 (Int.tdiv (wrap64 ((wrap64 (a0 + 719468)) - (wrap64 (146097 * (wrap64 (Int.tdiv (wrap64 ((wrap64 (a0 + 719468)) - 146096)) 146097)))))) 1460)))) + (wrap64 (Int.tdiv (wrap64 ((wrap64 (a0 + 719468)) - (wrap64 (146097 * (wrap64 (Int.tdiv (wrap64 ((wrap64 (a0 + 719468)) - 146096)) 146097)))))) 36524)))) - (wrap64 (Int.tdiv (wrap64 ((wrap64 (a0 + 719468)) - (wrap64 (146097 * (wrap64 (Int.tdiv (wrap64 ((wrap64 (a0 + 719468)) - 146096)) 146097)))))) 146096)))) 365)))) + (wrap64 (Int.tdiv (wrap64 (Int.tdiv (wrap64 ((wrap64 ((wrap64 ((wrap64 ((wrap64 (a0 + 719468)) - (wrap64 (146097 * (wrap64 (Int.tdiv (wrap64 ((wrap64 (a0 + 719468)) - 146096)) 146097)))))) - (wrap64 (Int.tdiv (wrap64 ((wrap64 (a0 + 719468)) - (wrap64 (146097 * (wrap64 (Int.tdiv (wrap64 ((wrap64 (a0 + 719468)) - 146096)) 146097)))))) 1460)))) + (wrap64 (Int.tdiv (wrap64 ((wrap64 (a0 + 719468)) - (wrap64 (146097 * (wrap64 (Int.tdiv (wrap64 ((wrap64 (a0 + 719468)) - 146096)) 146097)))))) 36524)))) - (wrap64 (Int.tdiv (wrap64 ((wrap64 (a0 + 719468)) - (wrap64 (146097 * (wrap64 (Int.tdiv (wrap64 ((wrap64 (a0 + 719468)) - 146096)) 146097)))))) 146096)))) 365)) 4)))) - (wrap64 (Int.tdiv (wrap64 (Int.tdiv (wrap64 ((wrap64 ((wrap64 ((wrap64 ((wrap64 (a0 + 719468)) - (wrap64 (146097 * (wrap64 (Int.tdiv (wrap64 ((wrap64 (a0 + 719468)) - 146096)) 146097)))))) - (wrap64 (Int.tdiv (wrap64 ((wrap64 (a0 + 719468)) - (wrap64 (146097 * (wrap64 (Int.tdiv (wrap64 ((wrap64 (a0 + 719468)) - 146096)) 146097)))))) 1460)))) + (wrap64 (Int.tdiv (wrap64 ((wrap64 (a0 + 719468)) - (wrap64 (146097 * (wrap64 (Int.tdiv (wrap64 ((wrap64 (a0 + 719468)) - 146096)) 146097)))))) 36524)))) - (wrap64 (Int.tdiv (wrap64 ((wrap64 (a0 + 719468)) - (wrap64 (146097 * (wrap64 (Int.tdiv (wrap64 ((wrap64 (a0 + 719468)) - 146096)) 146097)))))) 146096)))) 365)) 100)))))))) + 2)) 153)))) + 2)) 5)))) + 1))) else (some (wrap64 ((wrap64 ((wrap64 (Int.tdiv (wrap64 ((wrap64 ((wrap64 ((wrap64 ((wrap64 (a0 + 719468)) - (wrap64 (146097 * (wrap64 (Int.tdiv (wrap64 ((wrap64 (a0 + 719468)) - 146096)) 146097)))))) - (wrap64 (Int.tdiv (wrap64 ((wrap64 (a0 + 719468)) - (wrap64 (146097 * (wrap64 (Int.tdiv (wrap64 ((wrap64 (a0 + 719468)) - 146096)) 146097)))))) 1460)))) + (wrap64 (Int.tdiv (wrap64 ((wrap64 (a0 + 719468)) - (wrap64 (146097 * (wrap64 (Int.tdiv (wrap64 ((wrap64 (a0 + 719468)) - 146096)) 146097)))))) 36524)))) - (wrap64 (Int.tdiv (wrap64 ((wrap64 (a0 + 719468)) - (wrap64 (146097 * (wrap64 (Int.tdiv (wrap64 ((wrap64 (a0 + 719468)) - 146096)) 146097)))))) 146096)))) 365)) + (wrap64 (400 * (wrap64 (Int.tdiv (wrap64 ((wrap64 (a0 + 719468)) - 146096)) 146097)))))) + 1), wrap64 ((wrap64 (Int.tdiv (wrap64 ((wrap64 (5 * (wrap64 ((wrap64 ((wrap64 (a0 + 719468)) - (wrap64 (146097 * (wrap64 (Int.tdiv (wrap64 ((wrap64 (a0 + 719468)) - 146096)) 146097)))))) - (wrap64 ((wrap64 ((wrap64 (365 * (wrap64 (Int.tdiv (wrap64 ((wrap64 ((wrap64 ((wrap64 ((wrap64 (a0 + 719468)) - (wrap64 (146097 * (wrap64 (Int.tdiv (wrap64 ((wrap64 (a0 + 719468)) - 146096)) 146097)))))) - (wrap64 (Int.tdiv (wrap64 ((wrap64 (a0 + 719468)) - (wrap64 (146097 * (wrap64 (Int.tdiv (wrap64 ((wrap64 (a0 + 719468)) - 146096)) 146097)))))) 1460)))) + (wrap64 (Int.tdiv (wrap64 ((wrap64 (a0 + 719468)) - (wrap64 (146097 * (wrap64 (Int.tdiv (wrap64 ((wrap64 (a0 + 719468)) - 146096)) 146097)))))) 36524)))) - (wrap64 (Int.tdiv (wrap64 ((wrap64 (a0 + 719468)) - (wrap64 (146097 * (wrap64 (Int.tdiv (wrap64 ((wrap64 (a0 + 719468)) - 146096)) 146097)))))) 146096)))) 365)))) + (wrap64 (Int.tdiv (wrap64 (Int.tdiv (wrap64 ((wrap64 ((wrap64 ((wrap64 ((wrap64 (a0 + 719468)) - (wrap64 (146097 * (wrap64 (Int.tdiv (wrap64 ((wrap64 (a0 + 719468)) - 146096)) 146097)))))) - (wrap64 (Int.tdiv (wrap64 ((wrap64 (a0 + 719468)) - (wrap64 (146097 * (wrap64 (Int.tdiv (wrap64 ((wrap64 (a0 + 719468)) - 146096)) 146097)))))) 1460)))) + (wrap64 (Int.tdiv (wrap64 ((wrap64 (a0 + 719468)) - (wrap64 (146097 * (wrap64 (Int.tdiv (wrap64 ((wrap64 (a0 + 719468)) - 146096)) 146097)))))) 36524)))) - (wrap64 (Int.tdiv (wrap64 ((wrap64 (a0 + 719468)) - (wrap64 (146097 * (wrap64 (Int.tdiv (wrap64 ((wrap64 (a0 + 719468)) - 146096)) 146097)))))) 146096)))) 365)) 4)))) - (wrap64 (Int.tdiv (wrap64 (Int.tdiv (wrap64 ((wrap64 ((wrap64 ((wrap64 ((wrap64 (a0 + 719468)) - (wrap64 (146097 * (wrap64 (Int.tdiv (wrap64 ((wrap64 (a0 + 719468)) - 146096)) 146097)))))) - (wrap64 (Int.tdiv (wrap64 ((wrap64 (a0 + 719468)) - (wrap64 (146097 * (wrap64 (Int.tdiv (wrap64 ((wrap64 (a0 + 719468)) - 146096)) 146097)))))) 1460)))) + (wrap64 (Int.tdiv (wrap64 ((wrap64 (a0 + 719468)) - (wrap64 (146097 * (wrap64 (Int.tdiv (wrap64 ((wrap64 (a0 + 719468)) - 146096)) 146097)))))) 36524)))) - (wrap64 (Int.tdiv (wrap64 ((wrap64 (a0 + 719468)) - (wrap64 (146097 * (wrap64 (Int.tdiv (wrap64 ((wrap64 (a0 + 719468)) - 146096)) 146097)))))) 146096)))) 365)) 100)))))))) + 2)) 153)) - 9), wrap64 ((wrap64 ((wrap64 ((wrap64 ((wrap64 (a0 + 719468)) - (wrap64 (146097 * (wrap64 (Int.tdiv (wrap64 ((wrap64 (a0 + 719468)) - 146096)) 146097)))))) - (wrap64 ((wrap64 ((wrap64 (365 * (wrap64 (Int.tdiv (wrap64 ((wrap64 ((wrap64 ((wrap64 ((wrap64 (a0 + 719468)) - (wrap64 (146097 * (wrap64 (Int.tdiv (wrap64 ((wrap64 (a0 + 719468)) - 146096)) 146097)))))) - (wrap64 (Int.tdiv (wrap64 ((wrap64 (a0 + 719468)) - (wrap64 (146097 * (wrap64 (Int.tdiv (wrap64 ((wrap64 (a0 + 719468)) - 146096)) 146097)))))) 1460)))) + (wrap64 (Int.tdiv (wrap64 ((wrap64 (a0 + 719468)) - (wrap64 (146097 * (wrap64 (Int.tdiv (wrap64 ((wrap64 (a0 + 719468)) - 146096)) 146097)))))) 36524)))) - (wrap64 (Int.tdiv (wrap64 ((wrap64 (a0 + 719468)) - (wrap64 (146097 * (wrap64 (Int.tdiv (wrap64 ((wrap64 (a0 + 719468)) - 146096)) 146097)))))) 146096)))) 365)))) + (wrap64 (Int.tdiv (wrap64 (Int.tdiv (wrap64 ((wrap64 ((wrap64 ((wrap64 ((wrap64 (a0 + 719468)) - (wrap64 (146097 * (wrap64 (Int.tdiv (wrap64 ((wrap64 (a0 + 719468)) - 146096)) 146097)))))) - (wrap64 (Int.tdiv (wrap64 ((wrap64 (a0 + 719468)) - (wrap64 (146097 * (wrap64 (Int.tdiv (wrap64 ((wrap64 (a0 + 719468)) - 146096)) 146097)))))) 1460)))) + (wrap64 (Int.tdiv (wrap64 ((wrap64 (a0 + 719468)) - (wrap64 (146097 * (wrap64 (Int.tdiv (wrap64 ((wrap64 (a0 + 719468)) - 146096)) 146097)))))) 36524)))) - (wrap64 (Int.tdiv (wrap64 ((wrap64 (a0 + 719468)) - (wrap64 (146097 * (wrap64 (Int.tdiv (wrap64 ((wrap64 (a0 + 719468)) - 146096)) 146097)))))) 146096)))) 365)) 4)))) - (wrap64 (Int.tdiv (wrap64 (Int.tdiv (wrap64 ((wrap64 ((wrap64 ((wrap64 ((wrap64 (a0 + 719468)) - (wrap64 (146097 * (wrap64 (Int.tdiv (wrap64 ((wrap64 (a0 + 719468)) - 146096)) 146097)))))) - (wrap64 (Int.tdiv (wrap64 ((wrap64 (a0 + 719468)) - (wrap64 (146097 * (wrap64 (Int.tdiv (wrap64 ((wrap64 (a0 + 719468)) - 146096)) 146097)))))) 1460)))) + (wrap64 (Int.tdiv (wrap64 ((wrap64 (a0 + 719468)) - (wrap64 (146097 * (wrap64 (Int.tdiv (wrap64 ((wrap64 (a0 + 719468)) - 146096)) 146097)))))) 36524)))) - (wrap64 (Int.tdiv (wrap64 ((wrap64 (a0 + 719468)) - (wrap64 (146097 * (wrap64 (Int.tdiv (wrap64 ((wrap64 (a0 + 719468)) - 146096)) 146097)))))) 146096)))) 365)) 100)))))) - (wrap64 (Int.tdiv (wrap64 ((wrap64 (153 * (wrap64 (Int.tdiv (wrap64 ((wrap64 (5 * (wrap64 ((wrap64 ((wrap64 (a0 + 719468)) - (wrap64 (146097 * (wrap64 (Int.tdiv (wrap64 ((wrap64 (a0 + 719468)) - 146096)) 146097)))))) - (wrap64 ((wrap64 ((wrap64 (365 * (wrap64 (Int.tdiv (wrap64 ((wrap64 ((wrap64 ((wrap64 ((wrap64 (a0 + 719468)) - (wrap64 (146097 * (wrap64 (Int.tdiv (wrap64 ((wrap64 (a0 + 719468)) - 146096)) 146097)))))) - (wrap64 (Int.tdiv (wrap64 ((wrap64 (a0 + 719468)) - (wrap64 (146097 * (wrap64 (Int.tdiv (wrap64 ((wrap64 (a0 + 719468)) - 146096)) 146097)))))) 1460)))) + (wrap64 (Int.tdiv (wrap64 ((wrap64 (a0 + 719468)) - (wrap64 (146097 * (wrap64 (Int.tdiv (wrap64 ((wrap64 (a0 + 719468)) - 146096)) 146097)))))) 36524)))) - (wrap64 (Int.tdiv (wrap64 ((wrap64 (a0 + 719468)) - (wrap64 (146097 * (wrap64 (Int.tdiv (wrap64 ((wrap64 (a0 + 719468)) - 146096)) 146097)))))) 146096)))) 365)))) + (wrap64 (Int.tdiv (wrap64 (Int.tdiv (wrap64 ((wrap64 ((wrap64 ((wrap64 ((wrap64 (a0 + 719468)) - (wrap64 (146097 * (wrap64 (Int.tdiv (wrap64 ((wrap64 (a0 + 719468)) - 146096)) 146097)))))) - (wrap64 (Int.tdiv (wrap64 ((wrap64 (a0 + 719468)) - (wrap64 (146097 * (wrap64 (Int.tdiv (wrap64 ((wrap64 (a0 + 719468)) - 146096)) 146097)))))) 1460)))) + (wrap64 (Int.tdiv (wrap64 ((wrap64 (a0 + 719468)) - (wrap64 (146097 * (wrap64 (Int.tdiv (wrap64 ((wrap64 (a0 + 719468)) - 146096)) 146097)))))) 36524)))) - (wrap64 (Int.tdiv (wrap64 ((wrap64 (a0 + 719468)) - (wrap64 (146097 * (wrap64 (Int.tdiv (wrap64 ((wrap64 (a0 + 719468)) - 146096)) 146097)))))) 146096)))) 365)) 4)))) - (wrap64 (Int.tdiv (wrap64 (Int.tdiv (wrap64 ((wrap64 ((wrap64 ((wrap64 ((wrap64 (a0 + 719468)) - (wrap64 (146097 * (wrap64 (Int.tdiv (wrap64 ((wrap64 (a0 + 719468)) - 146096)) 146097)))))) - (wrap64 (Int.tdiv (wrap64 ((wrap64 (a0 + 719468)) - (wrap64 (146097 * (wrap64 (Int.tdiv (wrap64 ((wrap64 (a0 + 719468)) - 146096)) 146097)))))) 1460)))) + (wrap64 (Int.tdiv (wrap64 ((wrap64 (a0 + 719468)) - (wrap64 (146097 * (wrap64 (Int.tdiv (wrap64 ((wrap64 (a0 + 719468)) - 146096)) 146097)))))) 36524)))) - (wrap64 (Int.tdiv (wrap64 ((wrap64 (a0 + 719468)) - (wrap64 (146097 * (wrap64 (Int.tdiv (wrap64 ((wrap64 (a0 + 719468)) - 146096)) 146097)))))) 146096)))) 365)) 100)))))))) + 2)) 153)))) + 2)) 5)))) + 1)))) else (if (wrap64 (Int.tdiv (wrap64 ((wrap64 (5 * (wrap64 ((wrap64 ((wrap64 (a0 + 719468)) - (wrap64 (146097 * (wrap64 (Int.tdiv (wrap64 (a0 + 719468)) 146097)))))) - (wrap64 ((wrap64 ((wrap64 (365 * (wrap64 (Int.tdiv (wrap64 ((wrap64 ((wrap64 ((wrap64 ((wrap64 (a0 + 719468)) - (wrap64 (146097 * (wrap64 (Int.tdiv (wrap64 (a0 + 719468)) 146097)))))) - (wrap64 (Int.tdiv (wrap64 ((wrap64 (a0 + 719468)) - (wrap64 (146097 * (wrap64 (Int.tdiv (wrap64 (a0 + 719468)) 146097)))))) 1460)))) + (wrap64 (Int.tdiv (wrap64 ((wrap64 (a0 + 719468)) - (wrap64 (146097 * (wrap64 (Int.tdiv (wrap64 (a0 + 719468)) 146097)))))) 36524)))) - (wrap64 (Int.tdiv (wrap64 ((wrap64 (a0 + 719468)) - (wrap64 (146097 * (wrap64 (Int.tdiv (wrap64 (a0 + 719468)) 146097)))))) 146096)))) 365)))) + (wrap64 (Int.tdiv (wrap64 (Int.tdiv (wrap64 ((wrap64 ((wrap64 ((wrap64 ((wrap64 (a0 + 719468)) - (wrap64 (146097 * (wrap64 (Int.tdiv (wrap64 (a0 + 719468)) 146097)))))) - (wrap64 (Int.tdiv (wrap64 ((wrap64 (a0 + 719468)) - (wrap64 (146097 * (wrap64 (Int.tdiv (wrap64 (a0 + 719468)) 146097)))))) 1460)))) + (wrap64 (Int.tdiv (wrap64 ((wrap64 (a0 + 719468)) - (wrap64 (146097 * (wrap64 (Int.tdiv (wrap64 (a0 + 719468)) 146097)))))) 36524)))) - (wrap64 (Int.tdiv (wrap64 ((wrap64 (a0 + 719468)) - (wrap64 (146097 * (wrap64 (Int.tdiv (wrap64 (a0 + 719468)) 146097)))))) 146096)))) 365)) 4)))) - (wrap64 (Int.tdiv (wrap64 (Int.tdiv (wrap64 ((wrap64 ((wrap64 ((wrap64 ((wrap64 (a0 + 719468)) - (wrap64 (146097 * (wrap64 (Int.tdiv (wrap64 (a0 + 719468)) 146097)))))) - (wrap64 (Int.tdiv (wrap64 ((wrap64 (a0 + 719468)) - (wrap64 (146097 * (wrap64 (Int.tdiv (wrap64 (a0 + 719468)) 146097)))))) 1460)))) + (wrap64 (Int.tdiv (wrap64 ((wrap64 (a0 + 719468)) - (wrap64 (146097 * (wrap64 (Int.tdiv (wrap64 (a0 + 719468)) 146097)))))) 36524)))) - (wrap64 (Int.tdiv (wrap64 ((wrap64 (a0 + 719468)) - (wrap64 (146097 * (wrap64 (Int.tdiv (wrap64 (a0 + 719468)) 146097)))))) 146096)))) 365)) 100)))))))) + 2)) 153)) < 10 then (some (wrap64 ((wrap64 (Int.tdiv (wrap64 ((wrap64 ((wrap64 ((wrap64 ((wrap64 (a0 + 719468)) - (wrap64 (146097 * (wrap64 (Int.tdiv (wrap64 (a0 + 719468)) 146097)))))) - (wrap64 (Int.tdiv (wrap64 ((wrap64 (a0 + 719468)) - (wrap64 (146097 * (wrap64 (Int.tdiv (wrap64 (a0 + 719468)) 146097)))))) 1460)))) + (wrap64 (Int.tdiv (wrap64 ((wrap64 (a0 + 719468)) - (wrap64 (146097 * (wrap64 (Int.tdiv (wrap64 (a0 + 719468)) 146097)))))) 36524)))) - (wrap64 (Int.tdiv (wrap64 ((wrap64 (a0 + 719468)) - (wrap64 (146097 * (wrap64 (Int.tdiv (wrap64 (a0 + 719468)) 146097)))))) 146096)))) 365)) + (wrap64 (400 * (wrap64 (Int.tdiv (wrap64 (a0 + 719468)) 146097))))), wrap64 ((wrap64 (Int.tdiv (wrap64 ((wrap64 (5 * (wrap64 ((wrap64 ((wrap64 (a0 + 719468)) - (wrap64 (146097 * (wrap64 (Int.tdiv (wrap64 (a0 + 719468)) 146097)))))) - (wrap64 ((wrap64 ((wrap64 (365 * (wrap64 (Int.tdiv (wrap64 ((wrap64 ((wrap64 ((wrap64 ((wrap64 (a0 + 719468)) - (wrap64 (146097 * (wrap64 (Int.tdiv (wrap64 (a0 + 719468)) 146097)))))) - (wrap64 (Int.tdiv (wrap64 ((wrap64 (a0 + 719468)) - (wrap64 (146097 * (wrap64 (Int.tdiv (wrap64 (a0 + 719468)) 146097)))))) 1460)))) + (wrap64 (Int.tdiv (wrap64 ((wrap64 (a0 + 719468)) - (wrap64 (146097 * (wrap64 (Int.tdiv (wrap64 (a0 + 719468)) 146097)))))) 36524)))) - (wrap64 (Int.tdiv (wrap64 ((wrap64 (a0 + 719468)) - (wrap64 (146097 * (wrap64 (Int.tdiv (wrap64 (a0 + 719468)) 146097)))))) 146096)))) 365)))) + (wrap64 (Int.tdiv (wrap64 (Int.tdiv (wrap64 ((wrap64 ((wrap64 ((wrap64 ((wrap64 (a0 + 719468)) - (wrap64 (146097 * (wrap64 (Int.tdiv (wrap64 (a0 + 719468)) 146097)))))) - (wrap64 (Int.tdiv (wrap64 ((wrap64 (a0 + 719468)) - (wrap64 (146097 * (wrap64 (Int.tdiv (wrap64 (a0 + 719468)) 146097)))))) 1460)))) + (wrap64 (Int.tdiv (wrap64 ((wrap64 (a0 + 719468)) - (wrap64 (146097 * (wrap64 (Int.tdiv (wrap64 (a0 + 719468)) 146097)))))) 36524)))) - (wrap64 (Int.tdiv (wrap64 ((wrap64 (a0 + 719468)) - (wrap64 (146097 * (wrap64 (Int.tdiv (wrap64 (a0 + 719468)) 146097)))))) 146096)))) 365)) 4)))) - (wrap64 (Int.tdiv (wrap64 (Int.tdiv (wrap64 ((wrap64 ((wrap64 ((wrap64 ((wrap64 (a0 + 719468)) - (wrap64 (146097 * (wrap64 (Int.tdiv (wrap64 (a0 + 719468)) 146097)))))) - (wrap64 (Int.tdiv (wrap64 ((wrap64 (a0 + 719468)) - (wrap64 (146097 * (wrap64 (Int.tdiv (wrap64 (a0 + 719468)) 146097)))))) 1460)))) + (wrap64 (Int.tdiv (wrap64 ((wrap64 (a0 + 719468)) - (wrap64 (146097 * (wrap64 (Int.tdiv (wrap64 (a0 + 719468)) 146097)))))) 36524)))) - (wrap64 (Int.tdiv (wrap64 ((wrap64 (a0 + 719468)) - (wrap64 (146097 * (wrap64 (Int.tdiv (wrap64 (a0 + 719468)) 146097)))))) 146096)))) 365)) 100)))))))) + 2)) 153)) + 3), wrap64 ((wrap64 ((wrap64 ((wrap64 ((wrap64 (a0 + 719468)) - (wrap64 (146097 * (wrap64 (Int.tdiv (wrap64 (a0 + 719468)) 146097)))))) - (wrap64 ((wrap64 ((wrap64 (365 * (wrap64 (Int.tdiv (wrap64 ((wrap64 ((wrap64 ((wrap64 ((wrap64 (a0 + 719468)) - (wrap64 (146097 * (wrap64 (Int.tdiv (wrap64 (a0 + 719468)) 146097)))))) - (wrap64 (Int.tdiv (wrap64 ((wrap64 (a0 + 719468)) - (wrap64 (146097 * (wrap64 (Int.tdiv (wrap64 (a0 + 719468)) 146097)))))) 1460)))) + (wrap64 (Int.tdiv (wrap64 ((wrap64 (a0 + 719468)) - (wrap64 (146097 * (wrap64 (Int.tdiv (wrap64 (a0 + 719468)) 146097)))))) 36524)))) - (wrap64 (Int.tdiv (wrap64 ((wrap64 (a0 + 719468)) - (wrap64 (146097 * (wrap64 (Int.tdiv (wrap64 (a0 + 719468)) 146097)))))) 146096)))) 365)))) + (wrap64 (Int.tdiv (wrap64 (Int.tdiv (wrap64 ((wrap64 ((wrap64 ((wrap64 ((wrap64 (a0 + 719468)) - (wrap64 (146097 * (wrap64 (Int.tdiv (wrap64 (a0 + 719468)) 146097)))))) - (wrap64 (Int.tdiv (wrap64 ((wrap64 (a0 + 719468)) - (wrap64 (146097 * (wrap64 (Int.tdiv (wrap64 (a0 + 719468)) 146097)))))) 1460)))) + (wrap64 (Int.tdiv (wrap64 ((wrap64 (a0 + 719468)) - (wrap64 (146097 * (wrap64 (Int.tdiv (wrap64 (a0 + 719468)) 146097)))))) 36524)))) - (wrap64 (Int.tdiv (wrap64 ((wrap64 (a0 + 719468)) - (wrap64 (146097 * (wrap64 (Int.tdiv (wrap64 (a0 + 719468)) 146097)))))) 146096)))) 365)) 4)))) - (wrap64 (Int.tdiv (wrap64 (Int.tdiv (wrap64 ((wrap64 ((wrap64 ((wrap64 ((wrap64 (a0 + 719468)) - (wrap64 (146097 * (wrap64 (Int.tdiv (wrap64 (a0 + 719468)) 146097)))))) - (wrap64 (Int.tdiv (wrap64 ((wrap64 (a0 + 719468)) - (wrap64 (146097 * (wrap64 (Int.tdiv (wrap64 (a0 + 719468)) 146097)))))) 1460)))) + (wrap64 (Int.tdiv (wrap64 ((wrap64 (a0 + 719468)) - (wrap64 (146097 * (wrap64 (Int.tdiv (wrap64 (a0 + 719468)) 146097)))))) 36524)))) - (wrap64 (Int.tdiv (wrap64 ((wrap64 (a0 + 719468)) - (wrap64 (146097 * (wrap64 (Int.tdiv (wrap64 (a0 + 719468)) 146097)))))) 146096)))) 365)) 100)))))) - (wrap64 (Int.tdiv (wrap64 ((wrap64 (153 * (wrap64 (Int.tdiv (wrap64 ((wrap64 (5 * (wrap64 ((wrap64 ((wrap64 (a0 + 719468)) - (wrap64 (146097 * (wrap64 (Int.tdiv (wrap64 (a0 + 719468)) 146097)))))) - (wrap64 ((wrap64 ((wrap64 (365 * (wrap64 (Int.tdiv (wrap64 ((wrap64 ((wrap64 ((wrap64 ((wrap64 (a0 + 719468)) - (wrap64 (146097 * (wrap64 (Int.tdiv (wrap64 (a0 + 719468)) 146097)))))) - (wrap64 (Int.tdiv (wrap64 ((wrap64 (a0 + 719468)) - (wrap64 (146097 * (wrap64 (Int.tdiv (wrap64 (a0 + 719468)) 146097)))))) 1460)))) + (wrap64 (Int.tdiv (wrap64 ((wrap64 (a0 + 719468)) - (wrap64 (146097 * (wrap64 (Int.tdiv (wrap64 (a0 + 719468)) 146097)))))) 36524)))) - (wrap64 (Int.tdiv (wrap64 ((wrap64 (a0 + 719468)) - (wrap64 (146097 * (wrap64 (Int.tdiv (wrap64 (a0 + 719468)) 146097)))))) 146096)))) 365)))) + (wrap64 (Int.tdiv (wrap64 (Int.tdiv (wrap64 ((wrap64 ((wrap64 ((wrap64 ((wrap64 (a0 + 719468)) - (wrap64 (146097 * (wrap64 (Int.tdiv (wrap64 (a0 + 719468)) 146097)))))) - (wrap64 (Int.tdiv (wrap64 ((wrap64 (a0 + 719468)) - (wrap64 (146097 * (wrap64 (Int.tdiv (wrap64 (a0 + 719468)) 146097)))))) 1460)))) + (wrap64 (Int.tdiv (wrap64 ((wrap64 (a0 + 719468)) - (wrap64 (146097 * (wrap64 (Int.tdiv (wrap64 (a0 + 719468)) 146097)))))) 36524)))) - (wrap64 (Int.tdiv (wrap64 ((wrap64 (a0 + 719468)) - (wrap64 (146097 * (wrap64 (Int.tdiv (wrap64 (a0 + 719468)) 146097)))))) 146096)))) 365)) 4)))) - (wrap64 (Int.tdiv (wrap64 (Int.tdiv (wrap64 ((wrap64 ((wrap64 ((wrap64 ((wrap64 (a0 + 719468)) - (wrap64 (146097 * (wrap64 (Int.tdiv (wrap64 (a0 + 719468)) 146097)))))) - (wrap64 (Int.tdiv (wrap64 ((wrap64 (a0 + 719468)) - (wrap64 (146097 * (wrap64 (Int.tdiv (wrap64 (a0 + 719468)) 146097)))))) 1460)))) + (wrap64 (Int.tdiv (wrap64 ((wrap64 (a0 + 719468)) - (wrap64 (146097 * (wrap64 (Int.tdiv (wrap64 (a0 + 719468)) 146097)))))) 36524)))) - (wrap64 (Int.tdiv (wrap64 ((wrap64 (a0 + 719468)) - (wrap64 (146097 * (wrap64 (Int.tdiv (wrap64 (a0 + 719468)) 146097)))))) 146096)))) 365)) 100)))))))) + 2)) 153)))) + 2)) 5)))) + 1))) else (some (wrap64 ((wrap64 ((wrap64 (Int.tdiv (wrap64 ((wrap64 ((wrap64 ((wrap64 ((wrap64 (a0 + 719468)) - (wrap64 (146097 * (wrap64 (Int.tdiv (wrap64 (a0 + 719468)) 146097)))))) - (wrap64 (Int.tdiv (wrap64 ((wrap64 (a0 + 719468)) - (wrap64 (146097 * (wrap64 (Int.tdiv (wrap64 (a0 + 719468)) 146097)))))) 1460)))) + (wrap64 (Int.tdiv (wrap64 ((wrap64 (a0 + 719468)) - (wrap64 (146097 * (wrap64 (Int.tdiv (wrap64 (a0 + 719468)) 146097)))))) 36524)))) - (wrap64 (Int.tdiv (wrap64 ((wrap64 (a0 + 719468)) - (wrap64 (146097 * (wrap64 (Int.tdiv (wrap64 (a0 + 719468)) 146097)))))) 146096)))) 365)) + (wrap64 (400 * (wrap64 (Int.tdiv (wrap64 (a0 + 719468)) 146097)))))) + 1), wrap64 ((wrap64 (Int.tdiv (wrap64 ((wrap64 (5 * (wrap64 ((wrap64 ((wrap64 (a0 + 719468)) - (wrap64 (146097 * (wrap64 (Int.tdiv (wrap64 (a0 + 719468)) 146097)))))) - (wrap64 ((wrap64 ((wrap64 (365 * (wrap64 (Int.tdiv (wrap64 ((wrap64 ((wrap64 ((wrap64 ((wrap64 (a0 + 719468)) - (wrap64 (146097 * (wrap64 (Int.tdiv (wrap64 (a0 + 719468)) 146097)))))) - (wrap64 (Int.tdiv (wrap64 ((wrap64 (a0 + 719468)) - (wrap64 (146097 * (wrap64 (Int.tdiv (wrap64 (a0 + 719468)) 146097)))))) 1460)))) + (wrap64 (Int.tdiv (wrap64 ((wrap64 (a0 + 719468)) - (wrap64 (146097 * (wrap64 (Int.tdiv (wrap64 (a0 + 719468)) 146097)))))) 36524)))) - (wrap64 (Int.tdiv (wrap64 ((wrap64 (a0 + 719468)) - (wrap64 (146097 * (wrap64 (Int.tdiv (wrap64 (a0 + 719468)) 146097)))))) 146096)))) 365)))) + (wrap64 (Int.tdiv (wrap64 (Int.tdiv (wrap64 ((wrap64 ((wrap64 ((wrap64 ((wrap64 (a0 + 719468)) - (wrap64 (146097 * (wrap64 (Int.tdiv (wrap64 (a0 + 719468)) 146097)))))) - (wrap64 (Int.tdiv (wrap64 ((wrap64 (a0 + 719468)) - (wrap64 (146097 * (wrap64 (Int.tdiv (wrap64 (a0 + 719468)) 146097)))))) 1460)))) + (wrap64 (Int.tdiv (wrap64 ((wrap64 (a0 + 719468)) - (wrap64 (146097 * (wrap64 (Int.tdiv (wrap64 (a0 + 719468)) 146097)))))) 36524)))) - (wrap64 (Int.tdiv (wrap64 ((wrap64 (a0 + 719468)) - (wrap64 (146097 * (wrap64 (Int.tdiv (wrap64 (a0 + 719468)) 146097)))))) 146096)))) 365)) 4)))) - (wrap64 (Int.tdiv (wrap64 (Int.tdiv (wrap64 ((wrap64 ((wrap64 ((wrap64 ((wrap64 (a0 + 719468)) - (wrap64 (146097 * (wrap64 (Int.tdiv (wrap64 (a0 + 719468)) 146097)))))) - (wrap64 (Int.tdiv (wrap64 ((wrap64 (a0 + 719468)) - (wrap64 (146097 * (wrap64 (Int.tdiv (wrap64 (a0 + 719468)) 146097)))))) 1460)))) + (wrap64 (Int.tdiv (wrap64 ((wrap64 (a0 + 719468)) - (wrap64 (146097 * (wrap64 (Int.tdiv (wrap64 (a0 + 719468)) 146097)))))) 36524)))) - (wrap64 (Int.tdiv (wrap64 ((wrap64 (a0 + 719468)) - (wrap64 (146097 * (wrap64 (Int.tdiv (wrap64 (a0 + 719468)) 146097)))))) 146096)))) 365)) 100)))))))) + 2)) 153)) - 9), wrap64 ((wrap64 ((wrap64 ((wrap64 ((wrap64 (a0 + 719468)) - (wrap64 (146097 * (wrap64 (Int.tdiv (wrap64 (a0 + 719468)) 146097)))))) - (wrap64 ((wrap64 ((wrap64 (365 * (wrap64 (Int.tdiv (wrap64 ((wrap64 ((wrap64 ((wrap64 ((wrap64 (a0 + 719468)) - (wrap64 (146097 * (wrap64 (Int.tdiv (wrap64 (a0 + 719468)) 146097)))))) - (wrap64 (Int.tdiv (wrap64 ((wrap64 (a0 + 719468)) - (wrap64 (146097 * (wrap64 (Int.tdiv (wrap64 (a0 + 719468)) 146097)))))) 1460)))) + (wrap64 (Int.tdiv (wrap64 ((wrap64 (a0 + 719468)) - (wrap64 (146097 * (wrap64 (Int.tdiv (wrap64 (a0 + 719468)) 146097)))))) 36524)))) - (wrap64 (Int.tdiv (wrap64 ((wrap64 (a0 + 719468)) - (wrap64 (146097 * (wrap64 (Int.tdiv (wrap64 (a0 + 719468)) 146097)))))) 146096)))) 365)))) + (wrap64 (Int.tdiv (wrap64 (Int.tdiv (wrap64 ((wrap64 ((wrap64 ((wrap64 ((wrap64 (a0 + 719468)) - (wrap64 (146097 * (wrap64 (Int.tdiv (wrap64 (a0 + 719468)) 146097)))))) - (wrap64 (Int.tdiv (wrap64 ((wrap64 (a0 + 719468)) - (wrap64 (146097 * (wrap64 (Int.tdiv (wrap64 (a0 + 719468)) 146097)))))) 1460)))) + (wrap64 (Int.tdiv (wrap64 ((wrap64 (a0 + 719468)) - (wrap64 (146097 * (wrap64 (Int.tdiv (wrap64 (a0 + 719468)) 146097)))))) 36524)))) - (wrap64 (Int.tdiv (wrap64 ((wrap64 (a0 + 719468)) - (wrap64 (146097 * (wrap64 (Int.tdiv (wrap64 (a0 + 719468)) 146097)))))) 146096)))) 365)) 4)))) - (wrap64 (Int.tdiv (wrap64 (Int.tdiv (wrap64 ((wrap64 ((wrap64 ((wrap64 ((wrap64 (a0 + 719468)) - (wrap64 (146097 * (wrap64 (Int.tdiv (wrap64 (a0 + 719468)) 146097)))))) - (wrap64 (Int.tdiv (wrap64 ((wrap64 (a0 + 719468)) - (wrap64 (146097 * (wrap64 (Int.tdiv (wrap64 (a0 + 719468)) 146097)))))) 1460)))) + (wrap64 (Int.tdiv (wrap64 ((wrap64 (a0 + 719468)) - (wrap64 (146097 * (wrap64 (Int.tdiv (wrap64 (a0 + 719468)) 146097)))))) 36524)))) - (wrap64 (Int.tdiv (wrap64 ((wrap64 (a0 + 719468)) - (wrap64 (146097 * (wrap64 (Int.tdiv (wrap64 (a0 + 719468)) 146097)))))) 146096)))) 365)) 100)))))) - (wrap64 (Int.tdiv (wrap64 ((wrap64 (153 * (wrap64 (Int.tdiv (wrap64 ((wrap64 (5 * (wrap64 ((wrap64 ((wrap64 (a0 + 719468)) - (wrap64 (146097 * (wrap64 (Int.tdiv (wrap64 (a0 + 719468)) 146097)))))) - (wrap64 ((wrap64 ((wrap64 (365 * (wrap64 (Int.tdiv (wrap64 ((wrap64 ((wrap64 ((wrap64 ((wrap64 (a0 + 719468)) - (wrap64 (146097 * (wrap64 (Int.tdiv (wrap64 (a0 + 719468)) 146097)))))) - (wrap64 (Int.tdiv (wrap64 ((wrap64 (a0 + 719468)) - (wrap64 (146097 * (wrap64 (Int.tdiv (wrap64 (a0 + 719468)) 146097)))))) 1460)))) + (wrap64 (Int.tdiv (wrap64 ((wrap64 (a0 + 719468)) - (wrap64 (146097 * (wrap64 (Int.tdiv (wrap64 (a0 + 719468)) 146097)))))) 36524)))) - (wrap64 (Int.tdiv (wrap64 ((wrap64 (a0 + 719468)) - (wrap64 (146097 * (wrap64 (Int.tdiv (wrap64 (a0 + 719468)) 146097)))))) 146096)))) 365)))) + (wrap64 (Int.tdiv (wrap64 (Int.tdiv (wrap64 ((wrap64 ((wrap64 ((wrap64 ((wrap64 (a0 + 719468)) - (wrap64 (146097 * (wrap64 (Int.tdiv (wrap64 (a0 + 719468)) 146097)))))) - (wrap64 (Int.tdiv (wrap64 ((wrap64 (a0 + 719468)) - (wrap64 (146097 * (wrap64 (Int.tdiv (wrap64 (a0 + 719468)) 146097)))))) 1460)))) + (wrap64 (Int.tdiv (wrap64 ((wrap64 (a0 + 719468)) - (wrap64 (146097 * (wrap64 (Int.tdiv (wrap64 (a0 + 719468)) 146097)))))) 36524)))) - (wrap64 (Int.tdiv (wrap64 ((wrap64 (a0 + 719468)) - (wrap64 (146097 * (wrap64 (Int.tdiv (wrap64 (a0 + 719468)) 146097)))))) 146096)))) 365)) 4)))) - (wrap64 (Int.tdiv (wrap64 (Int.tdiv (wrap64 ((wrap64 ((wrap64 ((wrap64 ((wrap64 (a0 + 719468)) - (wrap64 (146097 * (wrap64 (Int.tdiv (wrap64 (a0 + 719468)) 146097)))))) - (wrap64 (Int.tdiv (wrap64 ((wrap64 (a0 + 719468)) - (wrap64 (146097 * (wrap64 (Int.tdiv (wrap64 (a0 + 719468)) 146097)))))) 1460)))) + (wrap64 (Int.tdiv (wrap64 ((wrap64 (a0 + 719468)) - (wrap64 (146097 * (wrap64 (Int.tdiv (wrap64 (a0 + 719468)) 146097)))))) 36524)))) - (wrap64 (Int.tdiv (wrap64 ((wrap64 (a0 + 719468)) - (wrap64 (146097 * (wrap64 (Int.tdiv (wrap64 (a0 + 719468)) 146097)))))) 146096)))) 365)) 100)))))))) + 2)) 153)))) + 2)) 5)))) + 1))))) = some (r1, r2, r3) := h
  clear h
  by_cases c2 : (wrap64 (a0 + 719468)) < 0
  · rw [if_pos c2] at H
    have c2b0 : decide ((wrap64 (a0 + 719468)) < 0) = true := decide_eq_true c2
    clear c2
    by_cases c3 : (wrap64 (Int.tdiv (wrap64 ((wrap64 (5 * (wrap64 ((wrap64 ((wrap64 (a0 + 719468)) - (wrap64 (146097 * (wrap64 (Int.tdiv (wrap64 ((wrap64 (a0 + 719468)) - 146096)) 146097)))))) - (wrap64 ((wrap64 ((wrap64 (365 * (wrap64 (Int.tdiv (wrap64 ((wrap64 ((wrap64 ((wrap64 ((wrap64 (a0 + 719468)) - (wrap64 (146097 * (wrap64 (Int.tdiv (wrap64 ((wrap64 (a0 + 719468)) - 146096)) 146097)))))) - (wrap64 (Int.tdiv (wrap64 ((wrap64 (a0 + 719468)) - (wrap64 (146097 * (wrap64 (Int.tdiv (wrap64 ((wrap64 (a0 + 719468)) - 146096)) 146097)))))) 1460)))) + (wrap64 (Int.tdiv (wrap64 ((wrap64 (a0 + 719468)) - (wrap64 (146097 * (wrap64 (Int.tdiv (wrap64 ((wrap64 (a0 + 719468)) - 146096)) 146097)))))) 36524)))) - (wrap64 (Int.tdiv (wrap64 ((wrap64 (a0 + 719468)) - (wrap64 (146097 * (wrap64 (Int.tdiv (wrap64 ((wrap64 (a0 + 719468)) - 146096)) 146097)))))) 146096)))) 365)))) + (wrap64 (Int.tdiv (wrap64 (Int.tdiv (wrap64 ((wrap64 ((wrap64 ((wrap64 ((wrap64 (a0 + 719468)) - (wrap64 (146097 * (wrap64 (Int.tdiv (wrap64 ((wrap64 (a0 + 719468)) - 146096)) 146097)))))) - (wrap64 (Int.tdiv (wrap64 ((wrap64 (a0 + 719468)) - (wrap64 (146097 * (wrap64 (Int.tdiv (wrap64 ((wrap64 (a0 + 719468)) - 146096)) 146097)))))) 1460)))) + (wrap64 (Int.tdiv (wrap64 ((wrap64 (a0 + 719468)) - (wrap64 (146097 * (wrap64 (Int.tdiv (wrap64 ((wrap64 (a0 + 719468)) - 146096)) 146097)))))) 36524)))) - (wrap64 (Int.tdiv (wrap64 ((wrap64 (a0 + 719468)) - (wrap64 (146097 * (wrap64 (Int.tdiv (wrap64 ((wrap64 (a0 + 719468)) - 146096)) 146097)))))) 146096)))) 365)) 4)))) - (wrap64 (Int.tdiv (wrap64 (Int.tdiv (wrap64 ((wrap64 ((wrap64 ((wrap64 ((wrap64 (a0 + 719468)) - (wrap64 (146097 * (wrap64 (Int.tdiv (wrap64 ((wrap64 (a0 + 719468)) - 146096)) 146097)))))) - (wrap64 (Int.tdiv (wrap64 ((wrap64 (a0 + 719468)) - (wrap64 (146097 * (wrap64 (Int.tdiv (wrap64 ((wrap64 (a0 + 719468)) - 146096)) 146097)))))) 1460)))) + (wrap64 (Int.tdiv (wrap64 ((wrap64 (a0 + 719468)) - (wrap64 (146097 * (wrap64 (Int.tdiv (wrap64 ((wrap64 (a0 + 719468)) - 146096)) 146097)))))) 36524)))) - (wrap64 (Int.tdiv (wrap64 ((wrap64 (a0 + 719468)) - (wrap64 (146097 * (wrap64 (Int.tdiv (wrap64 ((wrap64 (a0 + 719468)) - 146096)) 146097)))))) 146096)))) 365)) 100)))))))) + 2)) 153)) < 10
    · rw [if_pos c3] at H
      have c3b0 : decide ((wrap64 (Int.tdiv (wrap64 ((wrap64 (5 * (wrap64 ((wrap64 ((wrap64 (a0 + 719468)) - (wrap64 (146097 * (wrap64 (Int.tdiv (wrap64 ((wrap64 (a0 + 719468)) - 146096)) 146097)))))) - (wrap64 ((wrap64 ((wrap64 (365 * (wrap64 (Int.tdiv (wrap64 ((wrap64 ((wrap64 ((wrap64 ((wrap64 (a0 + 719468)) - (wrap64 (146097 * (wrap64 (Int.tdiv (wrap64 ((wrap64 (a0 + 719468)) - 146096)) 146097)))))) - (wrap64 (Int.tdiv (wrap64 ((wrap64 (a0 + 719468)) - (wrap64 (146097 * (wrap64 (Int.tdiv (wrap64 ((wrap64 (a0 + 719468)) - 146096)) 146097)))))) 1460)))) + (wrap64 (Int.tdiv (wrap64 ((wrap64 (a0 + 719468)) - (wrap64 (146097 * (wrap64 (Int.tdiv (wrap64 ((wrap64 (a0 + 719468)) - 146096)) 146097)))))) 36524)))) - (wrap64 (Int.tdiv (wrap64 ((wrap64 (a0 + 719468)) - (wrap64 (146097 * (wrap64 (Int.tdiv (wrap64 ((wrap64 (a0 + 719468)) - 146096)) 146097)))))) 146096)))) 365)))) + (wrap64 (Int.tdiv (wrap64 (Int.tdiv (wrap64 ((wrap64 ((wrap64 ((wrap64 ((wrap64 (a0 + 719468)) - (wrap64 (146097 * (wrap64 (Int.tdiv (wrap64 ((wrap64 (a0 + 719468)) - 146096)) 146097)))))) - (wrap64 (Int.tdiv (wrap64 ((wrap64 (a0 + 719468)) - (wrap64 (146097 * (wrap64 (Int.tdiv (wrap64 ((wrap64 (a0 + 719468)) - 146096)) 146097)))))) 1460)))) + (wrap64 (Int.tdiv (wrap64 ((wrap64 (a0 + 719468)) - (wrap64 (146097 * (wrap64 (Int.tdiv (wrap64 ((wrap64 (a0 + 719468)) - 146096)) 146097)))))) 36524)))) - (wrap64 (Int.tdiv (wrap64 ((wrap64 (a0 + 719468)) - (wrap64 (146097 * (wrap64 (Int.tdiv (wrap64 ((wrap64 (a0 + 719468)) - 146096)) 146097)))))) 146096)))) 365)) 4)))) - (wrap64 (Int.tdiv (wrap64 (Int.tdiv (wrap64 ((wrap64 ((wrap64 ((wrap64 ((wrap64 (a0 + 719468)) - (wrap64 (146097 * (wrap64 (Int.tdiv (wrap64 ((wrap64 (a0 + 719468)) - 146096)) 146097)))))) - (wrap64 (Int.tdiv (wrap64 ((wrap64 (a0 + 719468)) - (wrap64 (146097 * (wrap64 (Int.tdiv (wrap64 ((wrap64 (a0 + 719468)) - 146096)) 146097)))))) 1460)))) + (wrap64 (Int.tdiv (wrap64 ((wrap64 (a0 + 719468)) - (wrap64 (146097 * (wrap64 (Int.tdiv (wrap64 ((wrap64 (a0 + 719468)) - 146096)) 146097)))))) 36524)))) - (wrap64 (Int.tdiv (wrap64 ((wrap64 (a0 + 719468)) - (wrap64 (146097 * (wrap64 (Int.tdiv (wrap64 ((wrap64 (a0 + 719468)) - 146096)) 146097)))))) 146096)))) 365)) 100)))))))) + 2)) 153)) < 10) = true := decide_eq_true c3
      clear c3
      simp only [Option.some.injEq, Prod.mk.injEq] at H
      obtain ⟨rfl, rfl, rfl⟩ := H
      go_enter Try.func31, Try.ntmps31
      go_wp2
      go_ret3
      exact ⟨by first | rfl | (simp; done) | (simp [*]; done), by repeat (first | exact Drawn0.refl _ | apply Drawn0.step)⟩
    · rw [if_neg c3] at H
      have c3b0 : decide ((wrap64 (Int.tdiv (wrap64 ((wrap64 (5 * (wrap64 ((wrap64 ((wrap64 (a0 + 719468)) - (wrap64 (146097 * (wrap64 (Int.tdiv (wrap64 ((wrap64 (a0 + 719468)) - 146096)) 146097)))))) - (wrap64 ((wrap64 ((wrap64 (365 * (wrap64 (Int.tdiv (wrap64 ((wrap64 ((wrap64 ((wrap64 ((wrap64 (a0 + 719468)) - (wrap64 (146097 * (wrap64 (Int.tdiv (wrap64 ((wrap64 (a0 + 719468)) - 146096)) 146097)))))) - (wrap64 (Int.tdiv (wrap64 ((wrap64 (a0 + 719468)) - (wrap64 (146097 * (wrap64 (Int.tdiv (wrap64 ((wrap64 (a0 + 719468)) - 146096)) 146097)))))) 1460)))) + (wrap64 (Int.tdiv (wrap64 ((wrap64 (a0 + 719468)) - (wrap64 (146097 * (wrap64 (Int.tdiv (wrap64 ((wrap64 (a0 + 719468)) - 146096)) 146097)))))) 36524)))) - (wrap64 (Int.tdiv (wrap64 ((wrap64 (a0 + 719468)) - (wrap64 (146097 * (wrap64 (Int.tdiv (wrap64 ((wrap64 (a0 + 719468)) - 146096)) 146097)))))) 146096)))) 365)))) + (wrap64 (Int.tdiv (wrap64 (Int.tdiv (wrap64 ((wrap64 ((wrap64 ((wrap64 ((wrap64 (a0 + 719468)) - (wrap64 (146097 * (wrap64 (Int.tdiv (wrap64 ((wrap64 (a0 + 719468)) - 146096)) 146097)))))) - (wrap64 (Int.tdiv (wrap64 ((wrap64 (a0 + 719468)) - (wrap64 (146097 * (wrap64 (Int.tdiv (wrap64 ((wrap64 (a0 + 719468)) - 146096)) 146097)))))) 1460)))) + (wrap64 (Int.tdiv (wrap64 ((wrap64 (a0 + 719468)) - (wrap64 (146097 * (wrap64 (Int.tdiv (wrap64 ((wrap64 (a0 + 719468)) - 146096)) 146097)))))) 36524)))) - (wrap64 (Int.tdiv (wrap64 ((wrap64 (a0 + 719468)) - (wrap64 (146097 * (wrap64 (Int.tdiv (wrap64 ((wrap64 (a0 + 719468)) - 146096)) 146097)))))) 146096)))) 365)) 4)))) - (wrap64 (Int.tdiv (wrap64 (Int.tdiv (wrap64 ((wrap64 ((wrap64 ((wrap64 ((wrap64 (a0 + 719468)) - (wrap64 (146097 * (wrap64 (Int.tdiv (wrap64 ((wrap64 (a0 + 719468)) - 146096)) 146097)))))) - (wrap64 (Int.tdiv (wrap64 ((wrap64 (a0 + 719468)) - (wrap64 (146097 * (wrap64 (Int.tdiv (wrap64 ((wrap64 (a0 + 719468)) - 146096)) 146097)))))) 1460)))) + (wrap64 (Int.tdiv (wrap64 ((wrap64 (a0 + 719468)) - (wrap64 (146097 * (wrap64 (Int.tdiv (wrap64 ((wrap64 (a0 + 719468)) - 146096)) 146097)))))) 36524)))) - (wrap64 (Int.tdiv (wrap64 ((wrap64 (a0 + 719468)) - (wrap64 (146097 * (wrap64 (Int.tdiv (wrap64 ((wrap64 (a0 + 719468)) - 146096)) 146097)))))) 146096)))) 365)) 100)))))))) + 2)) 153)) < 10) = false := decide_eq_false c3
      clear c3
      simp only [Option.some.injEq, Prod.mk.injEq] at H
      obtain ⟨rfl, rfl, rfl⟩ := H
      go_enter Try.func31, Try.ntmps31
      go_wp2
      go_ret3
      exact ⟨by first | rfl | (simp; done) | (simp [*]; done), by repeat (first | exact Drawn0.refl _ | apply Drawn0.step)⟩
  · rw [if_neg c2] at H
    have c2b0 : decide ((wrap64 (a0 + 719468)) < 0) = false := decide_eq_false c2
    clear c2
    by_cases c4 : (wrap64 (Int.tdiv (wrap64 ((wrap64 (5 * (wrap64 ((wrap64 ((wrap64 (a0 + 719468)) - (wrap64 (146097 * (wrap64 (Int.tdiv (wrap64 (a0 + 719468)) 146097)))))) - (wrap64 ((wrap64 ((wrap64 (365 * (wrap64 (Int.tdiv (wrap64 ((wrap64 ((wrap64 ((wrap64 ((wrap64 (a0 + 719468)) - (wrap64 (146097 * (wrap64 (Int.tdiv (wrap64 (a0 + 719468)) 146097)))))) - (wrap64 (Int.tdiv (wrap64 ((wrap64 (a0 + 719468)) - (wrap64 (146097 * (wrap64 (Int.tdiv (wrap64 (a0 + 719468)) 146097)))))) 1460)))) + (wrap64 (Int.tdiv (wrap64 ((wrap64 (a0 + 719468)) - (wrap64 (146097 * (wrap64 (Int.tdiv (wrap64 (a0 + 719468)) 146097)))))) 36524)))) - (wrap64 (Int.tdiv (wrap64 ((wrap64 (a0 + 719468)) - (wrap64 (146097 * (wrap64 (Int.tdiv (wrap64 (a0 + 719468)) 146097)))))) 146096)))) 365)))) + (wrap64 (Int.tdiv (wrap64 (Int.tdiv (wrap64 ((wrap64 ((wrap64 ((wrap64 ((wrap64 (a0 + 719468)) - (wrap64 (146097 * (wrap64 (Int.tdiv (wrap64 (a0 + 719468)) 146097)))))) - (wrap64 (Int.tdiv (wrap64 ((wrap64 (a0 + 719468)) - (wrap64 (146097 * (wrap64 (Int.tdiv (wrap64 (a0 + 719468)) 146097)))))) 1460)))) + (wrap64 (Int.tdiv (wrap64 ((wrap64 (a0 + 719468)) - (wrap64 (146097 * (wrap64 (Int.tdiv (wrap64 (a0 + 719468)) 146097)))))) 36524)))) - (wrap64 (Int.tdiv (wrap64 ((wrap64 (a0 + 719468)) - (wrap64 (146097 * (wrap64 (Int.tdiv (wrap64 (a0 + 719468)) 146097)))))) 146096)))) 365)) 4)))) - (wrap64 (Int.tdiv (wrap64 (Int.tdiv (wrap64 ((wrap64 ((wrap64 ((wrap64 ((wrap64 (a0 + 719468)) - (wrap64 (146097 * (wrap64 (Int.tdiv (wrap64 (a0 + 719468)) 146097)))))) - (wrap64 (Int.tdiv (wrap64 ((wrap64 (a0 + 719468)) - (wrap64 (146097 * (wrap64 (Int.tdiv (wrap64 (a0 + 719468)) 146097)))))) 1460)))) + (wrap64 (Int.tdiv (wrap64 ((wrap64 (a0 + 719468)) - (wrap64 (146097 * (wrap64 (Int.tdiv (wrap64 (a0 + 719468)) 146097)))))) 36524)))) - (wrap64 (Int.tdiv (wrap64 ((wrap64 (a0 + 719468)) - (wrap64 (146097 * (wrap64 (Int.tdiv (wrap64 (a0 + 719468)) 146097)))))) 146096)))) 365)) 100)))))))) + 2)) 153)) < 10
    · rw [if_pos c4] at H
      have c4b0 : decide ((wrap64 (Int.tdiv (wrap64 ((wrap64 (5 * (wrap64 ((wrap64 ((wrap64 (a0 + 719468)) - (wrap64 (146097 * (wrap64 (Int.tdiv (wrap64 (a0 + 719468)) 146097)))))) - (wrap64 ((wrap64 ((wrap64 (365 * (wrap64 (Int.tdiv (wrap64 ((wrap64 ((wrap64 ((wrap64 ((wrap64 (a0 + 719468)) - (wrap64 (146097 * (wrap64 (Int.tdiv (wrap64 (a0 + 719468)) 146097)))))) - (wrap64 (Int.tdiv (wrap64 ((wrap64 (a0 + 719468)) - (wrap64 (146097 * (wrap64 (Int.tdiv (wrap64 (a0 + 719468)) 146097)))))) 1460)))) + (wrap64 (Int.tdiv (wrap64 ((wrap64 (a0 + 719468)) - (wrap64 (146097 * (wrap64 (Int.tdiv (wrap64 (a0 + 719468)) 146097)))))) 36524)))) - (wrap64 (Int.tdiv (wrap64 ((wrap64 (a0 + 719468)) - (wrap64 (146097 * (wrap64 (Int.tdiv (wrap64 (a0 + 719468)) 146097)))))) 146096)))) 365)))) + (wrap64 (Int.tdiv (wrap64 (Int.tdiv (wrap64 ((wrap64 ((wrap64 ((wrap64 ((wrap64 (a0 + 719468)) - (wrap64 (146097 * (wrap64 (Int.tdiv (wrap64 (a0 + 719468)) 146097)))))) - (wrap64 (Int.tdiv (wrap64 ((wrap64 (a0 + 719468)) - (wrap64 (146097 * (wrap64 (Int.tdiv (wrap64 (a0 + 719468)) 146097)))))) 1460)))) + (wrap64 (Int.tdiv (wrap64 ((wrap64 (a0 + 719468)) - (wrap64 (146097 * (wrap64 (Int.tdiv (wrap64 (a0 + 719468)) 146097)))))) 36524)))) - (wrap64 (Int.tdiv (wrap64 ((wrap64 (a0 + 719468)) - (wrap64 (146097 * (wrap64 (Int.tdiv (wrap64 (a0 + 719468)) 146097)))))) 146096)))) 365)) 4)))) - (wrap64 (Int.tdiv (wrap64 (Int.tdiv (wrap64 ((wrap64 ((wrap64 ((wrap64 ((wrap64 (a0 + 719468)) - (wrap64 (146097 * (wrap64 (Int.tdiv (wrap64 (a0 + 719468)) 146097)))))) - (wrap64 (Int.tdiv (wrap64 ((wrap64 (a0 + 719468)) - (wrap64 (146097 * (wrap64 (Int.tdiv (wrap64 (a0 + 719468)) 146097)))))) 1460)))) + (wrap64 (Int.tdiv (wrap64 ((wrap64 (a0 + 719468)) - (wrap64 (146097 * (wrap64 (Int.tdiv (wrap64 (a0 + 719468)) 146097)))))) 36524)))) - (wrap64 (Int.tdiv (wrap64 ((wrap64 (a0 + 719468)) - (wrap64 (146097 * (wrap64 (Int.tdiv (wrap64 (a0 + 719468)) 146097)))))) 146096)))) 365)) 100)))))))) + 2)) 153)) < 10) = true := decide_eq_true c4
      clear c4
      simp only [Option.some.injEq, Prod.mk.injEq] at H
      obtain ⟨rfl, rfl, rfl⟩ := H
      go_enter Try.func31, Try.ntmps31
      go_wp2
      go_ret3
      exact ⟨by first | rfl | (simp; done) | (simp [*]; done), by repeat (first | exact Drawn0.refl _ | apply Drawn0.step)⟩
    · rw [if_neg c4] at H
      have c4b0 : decide ((wrap64 (Int.tdiv (wrap64 ((wrap64 (5 * (wrap64 ((wrap64 ((wrap64 (a0 + 719468)) - (wrap64 (146097 * (wrap64 (Int.tdiv (wrap64 (a0 + 719468)) 146097)))))) - (wrap64 ((wrap64 ((wrap64 (365 * (wrap64 (Int.tdiv (wrap64 ((wrap64 ((wrap64 ((wrap64 ((wrap64 (a0 + 719468)) - (wrap64 (146097 * (wrap64 (Int.tdiv (wrap64 (a0 + 719468)) 146097)))))) - (wrap64 (Int.tdiv (wrap64 ((wrap64 (a0 + 719468)) - (wrap64 (146097 * (wrap64 (Int.tdiv (wrap64 (a0 + 719468)) 146097)))))) 1460)))) + (wrap64 (Int.tdiv (wrap64 ((wrap64 (a0 + 719468)) - (wrap64 (146097 * (wrap64 (Int.tdiv (wrap64 (a0 + 719468)) 146097)))))) 36524)))) - (wrap64 (Int.tdiv (wrap64 ((wrap64 (a0 + 719468)) - (wrap64 (146097 * (wrap64 (Int.tdiv (wrap64 (a0 + 719468)) 146097)))))) 146096)))) 365)))) + (wrap64 (Int.tdiv (wrap64 (Int.tdiv (wrap64 ((wrap64 ((wrap64 ((wrap64 ((wrap64 (a0 + 719468)) - (wrap64 (146097 * (wrap64 (Int.tdiv (wrap64 (a0 + 719468)) 146097)))))) - (wrap64 (Int.tdiv (wrap64 ((wrap64 (a0 + 719468)) - (wrap64 (146097 * (wrap64 (Int.tdiv (wrap64 (a0 + 719468)) 146097)))))) 1460)))) + (wrap64 (Int.tdiv (wrap64 ((wrap64 (a0 + 719468)) - (wrap64 (146097 * (wrap64 (Int.tdiv (wrap64 (a0 + 719468)) 146097)))))) 36524)))) - (wrap64 (Int.tdiv (wrap64 ((wrap64 (a0 + 719468)) - (wrap64 (146097 * (wrap64 (Int.tdiv (wrap64 (a0 + 719468)) 146097)))))) 146096)))) 365)) 4)))) - (wrap64 (Int.tdiv (wrap64 (Int.tdiv (wrap64 ((wrap64 ((wrap64 ((wrap64 ((wrap64 (a0 + 719468)) - (wrap64 (146097 * (wrap64 (Int.tdiv (wrap64 (a0 + 719468)) 146097)))))) - (wrap64 (Int.tdiv (wrap64 ((wrap64 (a0 + 719468)) - (wrap64 (146097 * (wrap64 (Int.tdiv (wrap64 (a0 + 719468)) 146097)))))) 1460)))) + (wrap64 (Int.tdiv (wrap64 ((wrap64 (a0 + 719468)) - (wrap64 (146097 * (wrap64 (Int.tdiv (wrap64 (a0 + 719468)) 146097)))))) 36524)))) - (wrap64 (Int.tdiv (wrap64 ((wrap64 (a0 + 719468)) - (wrap64 (146097 * (wrap64 (Int.tdiv (wrap64 (a0 + 719468)) 146097)))))) 146096)))) 365)) 100)))))))) + 2)) 153)) < 10) = false := decide_eq_false c4
      clear c4
      simp only [Option.some.injEq, Prod.mk.injEq] at H
      obtain ⟨rfl, rfl, rfl⟩ := H
      go_enter Try.func31, Try.ntmps31
      go_wp2
      go_ret3
      exact ⟨by first | rfl | (simp; done) | (simp [*]; done), by repeat (first | exact Drawn0.refl _ | apply Drawn0.step)⟩

/-! ### list_Day: function 24 -/
def list_Day.j0 : Nat → Int → Bool → Option (Int × Int × Int × Int)
  | 0, _, _ => none
  | k + 1, x0, x15 => if x15 = true then (some (0, 0, 0, 4)) else (if (Int.tmod x0 86400) < 0 then ((list_date.f (wrap64 ((wrap64 (Int.tdiv x0 86400)) - 1))).bind fun bt101 => (some (bt101.1, bt101.2.1, bt101.2.2, 0))) else ((list_date.f (wrap64 (Int.tdiv x0 86400))).bind fun bt104 => (some (bt104.1, bt104.2.1, bt104.2.2, 0))))
def list_Day.f (k : Nat) (a0 : Int) : Option (Int × Int × Int × Int) := if a0 < (-1099511627776) then (list_Day.j0 k a0 true) else (list_Day.j0 k a0 (decide (a0 > 1099511627776)))
theorem list_Day.mono_l : ∀ k, (∀ y0 y1, LeO (list_Day.j0 k y0 y1) (list_Day.j0 (k + 1) y0 y1))
  | 0 => fun _ _ r h => by simp [list_Day.j0] at h
  | k + 1 => by
    have ih0 := list_Day.mono_l k
    · intro y0 y1
      unfold list_Day.j0
      repeat' first
      | (with_reducible exact ih0 _ _)
      | (with_reducible exact LeO.refl _)
      | (with_reducible exact LeO.none _)
      | (with_reducible refine LeO.ite ?_ ?_)
      | (with_reducible refine LeO.bind ?_ (fun _ => ?_))
      | exact ih0 _ _
      | exact LeO.none _
      | refine LeO.ite ?_ ?_
      | refine LeO.bind ?_ (fun _ => ?_)
theorem list_Day.mono : ∀ a0 k, LeO (list_Day.f k a0) (list_Day.f (k + 1) a0) := by
  intro a0 k
  have ih0 := list_Day.mono_l k
  unfold list_Day.f
  repeat' first
      | (with_reducible exact ih0 _ _)
      | (with_reducible exact LeO.refl _)
      | (with_reducible exact LeO.none _)
      | (with_reducible refine LeO.ite ?_ ?_)
      | (with_reducible refine LeO.bind ?_ (fun _ => ?_))
      | exact ih0 _ _
      | exact LeO.none _
      | refine LeO.ite ?_ ?_
      | refine LeO.bind ?_ (fun _ => ?_)
set_option maxHeartbeats 8000000 in
set_option maxRecDepth 100000 in
theorem list_Day.calls (k : Nat) (a0 : Int) (r1 : Int) (r2 : Int) (r3 : Int) (r4 : Int) (w : World) (h : list_Day.f k a0 = some (r1, r2, r3, r4)) :
    Calls Try.prog 24 #[.int .i64 a0] w fun e w' => e = .returned (.tuple #[.int .i64 r1, .int .i64 r2, .int .i64 r3, .int .i64 r4]) ∧ Drawn0 w w' := by
  have H : (if a0 < (-1099511627776) then (list_Day.j0 k a0 true) else (list_Day.j0 k a0 (decide (a0 > 1099511627776)))) = some (r1, r2, r3, r4) := h
  clear h
  have HC2 := Aside0.mk H
  clear H
  go_enter Try.func24, Try.ntmps24
  go_upto_region 1 with (fail)
  go_cut [15] (fun v15 wc => ∃ (kq : Nat) (x15_1 : Bool), v15 = .bool x15_1 ∧ Aside0 (list_Day.j0 kq a0 x15_1 = some (r1, r2, r3, r4)) ∧ Aside0 (kq ≤ k) ∧ Drawn0 w wc)
  case first =>
    have H := HC2.out
    clear HC2
    by_cases c3 : a0 < (-1099511627776)
    · rw [if_pos c3] at H
      have c3b0 : decide (a0 < (-1099511627776)) = true := decide_eq_true c3
      clear c3
      (first | rw [c3b0] | (simp only [i64_w, i32_w]; rw [c3b0]) | skip)
      have H' := Aside0.mk H
      clear H
      go_wp2
      go_meet
      case rel => exact ⟨_, (true), (by first | rfl | (simp; done) | (simp [*]; done)), H', ⟨by first | omega | exact Nat.le_refl _⟩, by repeat (first | exact Drawn0.refl _ | apply Drawn0.step)⟩
    · rw [if_neg c3] at H
      have c3b0 : decide (a0 < (-1099511627776)) = false := decide_eq_false c3
      clear c3
      (first | rw [c3b0] | (simp only [i64_w, i32_w]; rw [c3b0]) | skip)
      have H' := Aside0.mk H
      clear H
      go_wp2
      go_meet
      case rel => exact ⟨_, (decide (a0 > 1099511627776)), (by first | rfl | (simp; done) | (simp [*]; done)), H', ⟨by first | omega | exact Nat.le_refl _⟩, by repeat (first | exact Drawn0.refl _ | apply Drawn0.step)⟩
  case rest =>
    clear HC2
    try clear c2
    try clear p2
    try clear c3
    try clear c3b0
    obtain ⟨kq, x15_1, rfl, HA, HJ1, ⟨mc1, rfl⟩⟩ := hcut
    cases kq with
    | zero => exact absurd HA.out (by simp [list_Day.j0])
    | succ kj1 =>
      have H := HA.out
      clear HA
      simp only [list_Day.j0] at H
      by_cases c4 : x15_1 = true
      · subst c4
        have H1 : (some (0, 0, 0, 4)) = some (r1, r2, r3, r4) := by rw [if_pos rfl] at H; exact H
        clear H
        have H := H1
        clear H1
        simp only [Option.some.injEq, Prod.mk.injEq] at H
        obtain ⟨rfl, rfl, rfl, rfl⟩ := H
        go_wp2
        refine bodyPost_ret (results_list (rs := [.tmp 2, .tmp 3, .tmp 4, .tmp 5]) rfl (by simp) (.tmp (.tmp (.tmp (.tmp .nil))))) rfl ?_
        exact ⟨by first | rfl | (simp; done) | (simp [*]; done), by repeat (first | exact Drawn0.refl _ | apply Drawn0.step)⟩
      · replace c4 := Bool.eq_false_iff.mpr c4
        subst c4
        have H1 : (if (Int.tmod a0 86400) < 0 then ((list_date.f (wrap64 ((wrap64 (Int.tdiv a0 86400)) - 1))).bind fun bt101 => (some (bt101.1, bt101.2.1, bt101.2.2, 0))) else ((list_date.f (wrap64 (Int.tdiv a0 86400))).bind fun bt104 => (some (bt104.1, bt104.2.1, bt104.2.2, 0)))) = some (r1, r2, r3, r4) := by rw [if_neg (show ¬ (false = true) by decide)] at H; exact H
        clear H
        have H := H1
        clear H1
        by_cases c5 : (Int.tmod a0 86400) < 0
        · rw [if_pos c5] at H
          have c5b0 : decide ((Int.tmod a0 86400) < 0) = true := decide_eq_true c5
          clear c5
          replace H := Option.bind_eq_some_iff.mp H
          obtain ⟨⟨t101, t102, t103⟩, A60, H⟩ := H
          replace H : (some (t101, t102, t103, 0)) = some (r1, r2, r3, r4) := H
          have A6 := Aside0.mk A60
          clear A60
          simp only [Option.some.injEq, Prod.mk.injEq] at H
          obtain ⟨rfl, rfl, rfl, rfl⟩ := H
          go_wp2_with (first | ((with_reducible refine gate_callee (f := 31) rfl ?_); refine goesL_ (some 25) rfl rfl Try.func31 (by kernel_rfl) rfl #[.int .i64 (wrap64 ((wrap64 (Int.tdiv a0 86400)) - 1))] rfl (by (try simp only [List.map_toArray, List.map_cons, List.map_nil]); first | done | rfl | (simp only [List.length_drop, List.length_take]; rfl)) ?_; (with_reducible refine (list_date.calls (wrap64 ((wrap64 (Int.tdiv a0 86400)) - 1)) t101 t102 t103 _ A6.out).mono ?_); rintro e w' ⟨rfl, ⟨nd, rfl⟩⟩; refine ⟨_, rfl, ?_⟩))
          refine bodyPost_ret (results_list (rs := [.tmp 2, .tmp 3, .tmp 4, .tmp 5]) rfl (by simp) (.tmp (.tmp (.tmp (.tmp .nil))))) rfl ?_
          exact ⟨by first | rfl | (simp; done) | (simp [*]; done), by repeat (first | exact Drawn0.refl _ | apply Drawn0.step)⟩
        · rw [if_neg c5] at H
          have c5b0 : decide ((Int.tmod a0 86400) < 0) = false := decide_eq_false c5
          clear c5
          replace H := Option.bind_eq_some_iff.mp H
          obtain ⟨⟨t104, t105, t106⟩, A70, H⟩ := H
          replace H : (some (t104, t105, t106, 0)) = some (r1, r2, r3, r4) := H
          have A7 := Aside0.mk A70
          clear A70
          simp only [Option.some.injEq, Prod.mk.injEq] at H
          obtain ⟨rfl, rfl, rfl, rfl⟩ := H
          go_wp2_with (first | ((with_reducible refine gate_callee (f := 31) rfl ?_); refine goesL_ (some 25) rfl rfl Try.func31 (by kernel_rfl) rfl #[.int .i64 (wrap64 (Int.tdiv a0 86400))] rfl (by (try simp only [List.map_toArray, List.map_cons, List.map_nil]); first | done | rfl | (simp only [List.length_drop, List.length_take]; rfl)) ?_; (with_reducible refine (list_date.calls (wrap64 (Int.tdiv a0 86400)) t104 t105 t106 _ A7.out).mono ?_); rintro e w' ⟨rfl, ⟨nd, rfl⟩⟩; refine ⟨_, rfl, ?_⟩))
          refine bodyPost_ret (results_list (rs := [.tmp 2, .tmp 3, .tmp 4, .tmp 5]) rfl (by simp) (.tmp (.tmp (.tmp (.tmp .nil))))) rfl ?_
          exact ⟨by first | rfl | (simp; done) | (simp [*]; done), by repeat (first | exact Drawn0.refl _ | apply Drawn0.step)⟩

/-! ### creelkeep_ListNext: function 9 -/
mutual
def creelkeep_ListNext.j0 : Nat → Int → Int → Int → Int → Int → Int → Bool → Option (Bool)
  | 0, _, _, _, _, _, _, _ => none
  | k + 1, x3, x4, x5, x7, x8, x9, x52 => if x52 = true then (some false) else (if x7 = x3 then (creelkeep_ListNext.j1 k x3 x4 x5 x7 x8 x9 (x8 == x4)) else (creelkeep_ListNext.j1 k x3 x4 x5 x7 x8 x9 false))
def creelkeep_ListNext.j1 : Nat → Int → Int → Int → Int → Int → Int → Bool → Option (Bool)
  | 0, _, _, _, _, _, _, _ => none
  | k + 1, x3, x4, x5, x7, x8, x9, x53 => if x53 = true then (some (x9 == (wrap64 (x5 + 1)))) else (if x7 = x3 then (if x8 = (wrap64 (x4 + 1)) then (if x9 = 1 then (some (decide (x5 ≥ 28))) else (some false)) else (some false)) else (if x7 = (wrap64 (x3 + 1)) then (if x8 = 1 then (if x9 = 1 then (if x4 = 12 then (some (x5 == 31)) else (some false)) else (some false)) else (some false)) else (some false)))
end
def creelkeep_ListNext.f (k : Nat) (a0 : Int) : Option (Bool) := (creelkeep_picked.f a0 2199023169152).bind fun t107 => ((list_Day.f k (wrap64 (t107 - 1099511627776))).bind fun bt108 => ((list_Day.f k (wrap64 ((wrap64 (t107 - 1099511627776)) + 86400))).bind fun bt112 => ((list_Day.f k 0).bind fun bt116 => (if bt116.1 = 1970 then (if bt116.2.2.2 = 0 then (if bt108.2.2.2 = 0 then (creelkeep_ListNext.j0 k bt108.1 bt108.2.1 bt108.2.2.1 bt112.1 bt112.2.1 bt112.2.2.1 (bt112.2.2.2 != 0)) else (creelkeep_ListNext.j0 k bt108.1 bt108.2.1 bt108.2.2.1 bt112.1 bt112.2.1 bt112.2.2.1 true)) else (creelkeep_ListNext.j0 k bt108.1 bt108.2.1 bt108.2.2.1 bt112.1 bt112.2.1 bt112.2.2.1 true)) else (creelkeep_ListNext.j0 k bt108.1 bt108.2.1 bt108.2.2.1 bt112.1 bt112.2.1 bt112.2.2.1 true)))))
theorem creelkeep_ListNext.mono_l : ∀ k, (∀ y0 y1 y2 y3 y4 y5 y6, LeO (creelkeep_ListNext.j0 k y0 y1 y2 y3 y4 y5 y6) (creelkeep_ListNext.j0 (k + 1) y0 y1 y2 y3 y4 y5 y6)) ∧ (∀ y0 y1 y2 y3 y4 y5 y6, LeO (creelkeep_ListNext.j1 k y0 y1 y2 y3 y4 y5 y6) (creelkeep_ListNext.j1 (k + 1) y0 y1 y2 y3 y4 y5 y6))
  | 0 => ⟨fun _ _ _ _ _ _ _ r h => by simp [creelkeep_ListNext.j0] at h, fun _ _ _ _ _ _ _ r h => by simp [creelkeep_ListNext.j1] at h⟩
  | k + 1 => by
    obtain ⟨ih0, ih1⟩ := creelkeep_ListNext.mono_l k
    refine ⟨?_, ?_⟩
    · intro y0 y1 y2 y3 y4 y5 y6
      unfold creelkeep_ListNext.j0
      repeat' first
      | (with_reducible exact ih0 _ _ _ _ _ _ _)
      | (with_reducible exact ih1 _ _ _ _ _ _ _)
      | (with_reducible exact list_Day.mono _ _)
      | (with_reducible exact LeO.refl _)
      | (with_reducible exact LeO.none _)
      | (with_reducible refine LeO.ite ?_ ?_)
      | (with_reducible refine LeO.bind ?_ (fun _ => ?_))
      | exact ih0 _ _ _ _ _ _ _
      | exact ih1 _ _ _ _ _ _ _
      | exact list_Day.mono _ _
      | exact LeO.none _
      | refine LeO.ite ?_ ?_
      | refine LeO.bind ?_ (fun _ => ?_)
    · intro y0 y1 y2 y3 y4 y5 y6
      unfold creelkeep_ListNext.j1
      repeat' first
      | (with_reducible exact ih0 _ _ _ _ _ _ _)
      | (with_reducible exact ih1 _ _ _ _ _ _ _)
      | (with_reducible exact list_Day.mono _ _)
      | (with_reducible exact LeO.refl _)
      | (with_reducible exact LeO.none _)
      | (with_reducible refine LeO.ite ?_ ?_)
      | (with_reducible refine LeO.bind ?_ (fun _ => ?_))
      | exact ih0 _ _ _ _ _ _ _
      | exact ih1 _ _ _ _ _ _ _
      | exact list_Day.mono _ _
      | exact LeO.none _
      | refine LeO.ite ?_ ?_
      | refine LeO.bind ?_ (fun _ => ?_)
theorem creelkeep_ListNext.mono : ∀ a0 k, LeO (creelkeep_ListNext.f k a0) (creelkeep_ListNext.f (k + 1) a0) := by
  intro a0 k
  obtain ⟨ih0, ih1⟩ := creelkeep_ListNext.mono_l k
  unfold creelkeep_ListNext.f
  repeat' first
      | (with_reducible exact ih0 _ _ _ _ _ _ _)
      | (with_reducible exact ih1 _ _ _ _ _ _ _)
      | (with_reducible exact list_Day.mono _ _)
      | (with_reducible exact LeO.refl _)
      | (with_reducible exact LeO.none _)
      | (with_reducible refine LeO.ite ?_ ?_)
      | (with_reducible refine LeO.bind ?_ (fun _ => ?_))
      | exact ih0 _ _ _ _ _ _ _
      | exact ih1 _ _ _ _ _ _ _
      | exact list_Day.mono _ _
      | exact LeO.none _
      | refine LeO.ite ?_ ?_
      | refine LeO.bind ?_ (fun _ => ?_)
set_option maxHeartbeats 8000000 in
set_option maxRecDepth 100000 in
theorem creelkeep_ListNext.calls (k : Nat) (a0 : Int) (r : Bool) (w : World) (h : creelkeep_ListNext.f k a0 = some r) :
    Calls Try.prog 9 #[.int .i64 a0] w fun e w' => e = .returned (.bool r) ∧ Drawn0 w w' := by
  have H : ((creelkeep_picked.f a0 2199023169152).bind fun t107 => ((list_Day.f k (wrap64 (t107 - 1099511627776))).bind fun bt108 => ((list_Day.f k (wrap64 ((wrap64 (t107 - 1099511627776)) + 86400))).bind fun bt112 => ((list_Day.f k 0).bind fun bt116 => (if bt116.1 = 1970 then (if bt116.2.2.2 = 0 then (if bt108.2.2.2 = 0 then (creelkeep_ListNext.j0 k bt108.1 bt108.2.1 bt108.2.2.1 bt112.1 bt112.2.1 bt112.2.2.1 (bt112.2.2.2 != 0)) else (creelkeep_ListNext.j0 k bt108.1 bt108.2.1 bt108.2.2.1 bt112.1 bt112.2.1 bt112.2.2.1 true)) else (creelkeep_ListNext.j0 k bt108.1 bt108.2.1 bt108.2.2.1 bt112.1 bt112.2.1 bt112.2.2.1 true)) else (creelkeep_ListNext.j0 k bt108.1 bt108.2.1 bt108.2.2.1 bt112.1 bt112.2.1 bt112.2.2.1 true)))))) = some r := h
  clear h
  replace H := Option.bind_eq_some_iff.mp H
  obtain ⟨t107, A20, H⟩ := H
  replace H : ((list_Day.f k (wrap64 (t107 - 1099511627776))).bind fun bt108 => ((list_Day.f k (wrap64 ((wrap64 (t107 - 1099511627776)) + 86400))).bind fun bt112 => ((list_Day.f k 0).bind fun bt116 => (if bt116.1 = 1970 then (if bt116.2.2.2 = 0 then (if bt108.2.2.2 = 0 then (creelkeep_ListNext.j0 k bt108.1 bt108.2.1 bt108.2.2.1 bt112.1 bt112.2.1 bt112.2.2.1 (bt112.2.2.2 != 0)) else (creelkeep_ListNext.j0 k bt108.1 bt108.2.1 bt108.2.2.1 bt112.1 bt112.2.1 bt112.2.2.1 true)) else (creelkeep_ListNext.j0 k bt108.1 bt108.2.1 bt108.2.2.1 bt112.1 bt112.2.1 bt112.2.2.1 true)) else (creelkeep_ListNext.j0 k bt108.1 bt108.2.1 bt108.2.2.1 bt112.1 bt112.2.1 bt112.2.2.1 true))))) = some r := H
  have A2 := Aside0.mk A20
  clear A20
  replace H := Option.bind_eq_some_iff.mp H
  obtain ⟨⟨t108, t109, t110, t111⟩, A30, H⟩ := H
  replace H : ((list_Day.f k (wrap64 ((wrap64 (t107 - 1099511627776)) + 86400))).bind fun bt112 => ((list_Day.f k 0).bind fun bt116 => (if bt116.1 = 1970 then (if bt116.2.2.2 = 0 then (if t111 = 0 then (creelkeep_ListNext.j0 k t108 t109 t110 bt112.1 bt112.2.1 bt112.2.2.1 (bt112.2.2.2 != 0)) else (creelkeep_ListNext.j0 k t108 t109 t110 bt112.1 bt112.2.1 bt112.2.2.1 true)) else (creelkeep_ListNext.j0 k t108 t109 t110 bt112.1 bt112.2.1 bt112.2.2.1 true)) else (creelkeep_ListNext.j0 k t108 t109 t110 bt112.1 bt112.2.1 bt112.2.2.1 true)))) = some r := H
  have A3 := Aside0.mk A30
  clear A30
  replace H := Option.bind_eq_some_iff.mp H
  obtain ⟨⟨t112, t113, t114, t115⟩, A40, H⟩ := H
  replace H : ((list_Day.f k 0).bind fun bt116 => (if bt116.1 = 1970 then (if bt116.2.2.2 = 0 then (if t111 = 0 then (creelkeep_ListNext.j0 k t108 t109 t110 t112 t113 t114 (t115 != 0)) else (creelkeep_ListNext.j0 k t108 t109 t110 t112 t113 t114 true)) else (creelkeep_ListNext.j0 k t108 t109 t110 t112 t113 t114 true)) else (creelkeep_ListNext.j0 k t108 t109 t110 t112 t113 t114 true))) = some r := H
  have A4 := Aside0.mk A40
  clear A40
  replace H := Option.bind_eq_some_iff.mp H
  obtain ⟨⟨t116, t117, t118, t119⟩, A50, H⟩ := H
  replace H : (if t116 = 1970 then (if t119 = 0 then (if t111 = 0 then (creelkeep_ListNext.j0 k t108 t109 t110 t112 t113 t114 (t115 != 0)) else (creelkeep_ListNext.j0 k t108 t109 t110 t112 t113 t114 true)) else (creelkeep_ListNext.j0 k t108 t109 t110 t112 t113 t114 true)) else (creelkeep_ListNext.j0 k t108 t109 t110 t112 t113 t114 true)) = some r := H
  have A5 := Aside0.mk A50
  clear A50
  have HC6 := Aside0.mk H
  clear H
  go_enter Try.func9, Try.ntmps9
  go_upto_region 5 with (first | ((with_reducible refine gate_callee (f := 15) rfl ?_); refine goesL_ (some 16) rfl rfl Try.func15 (by kernel_rfl) rfl #[.int .i64 a0, .int .i64 2199023169152] rfl (by (try simp only [List.map_toArray, List.map_cons, List.map_nil]); first | done | rfl | (simp only [List.length_drop, List.length_take]; rfl)) ?_; (with_reducible refine (creelkeep_picked.calls a0 2199023169152 t107 _ A2.out).mono ?_); rintro e w' ⟨rfl, ⟨nd, rfl⟩⟩; refine ⟨_, rfl, ?_⟩) | ((with_reducible refine gate_callee (f := 24) rfl ?_); refine goesL_ (some 20) rfl rfl Try.func24 (by kernel_rfl) rfl #[.int .i64 (wrap64 (t107 - 1099511627776))] rfl (by (try simp only [List.map_toArray, List.map_cons, List.map_nil]); first | done | rfl | (simp only [List.length_drop, List.length_take]; rfl)) ?_; (with_reducible refine (list_Day.calls k (wrap64 (t107 - 1099511627776)) t108 t109 t110 t111 _ A3.out).mono ?_); rintro e w' ⟨rfl, ⟨nd, rfl⟩⟩; refine ⟨_, rfl, ?_⟩) | ((with_reducible refine gate_callee (f := 24) rfl ?_); refine goesL_ (some 28) rfl rfl Try.func24 (by kernel_rfl) rfl #[.int .i64 (wrap64 ((wrap64 (t107 - 1099511627776)) + 86400))] rfl (by (try simp only [List.map_toArray, List.map_cons, List.map_nil]); first | done | rfl | (simp only [List.length_drop, List.length_take]; rfl)) ?_; (with_reducible refine (list_Day.calls k (wrap64 ((wrap64 (t107 - 1099511627776)) + 86400)) t112 t113 t114 t115 _ A4.out).mono ?_); rintro e w' ⟨rfl, ⟨nd, rfl⟩⟩; refine ⟨_, rfl, ?_⟩) | ((with_reducible refine gate_callee (f := 24) rfl ?_); refine goesL_ (some 34) rfl rfl Try.func24 (by kernel_rfl) rfl #[.int .i64 0] rfl (by (try simp only [List.map_toArray, List.map_cons, List.map_nil]); first | done | rfl | (simp only [List.length_drop, List.length_take]; rfl)) ?_; (with_reducible refine (list_Day.calls k 0 t116 t117 t118 t119 _ A5.out).mono ?_); rintro e w' ⟨rfl, ⟨nd, rfl⟩⟩; refine ⟨_, rfl, ?_⟩))
  (try simp only [Act.put, List.setIfInBounds_toArray, List.set_cons_zero, List.set_cons_succ])
  go_cut [52] (fun v52 wc => ∃ (kq : Nat) (x52_5 : Bool), v52 = .bool x52_5 ∧ Aside0 (creelkeep_ListNext.j0 kq t108 t109 t110 t112 t113 t114 x52_5 = some r) ∧ Aside0 (kq ≤ k) ∧ Drawn0 w wc)
  case first =>
    have H := HC6.out
    clear HC6
    by_cases c7 : t116 = 1970
    · rw [if_pos c7] at H
      have c7b0 : (t116 == 1970) = true := beq_iff_eq.mpr c7
      have c7b1 : (t116 != 1970) = false := bne_eq_false_iff_eq.mpr c7
      clear c7
      (first | rw [c7b0] | (simp only [i64_w, i32_w]; rw [c7b0]) | skip)
      by_cases c8 : t119 = 0
      · rw [if_pos c8] at H
        have c8b0 : (t119 == 0) = true := beq_iff_eq.mpr c8
        have c8b1 : (t119 != 0) = false := bne_eq_false_iff_eq.mpr c8
        clear c8
        by_cases c9 : t111 = 0
        · rw [if_pos c9] at H
          have c9b0 : (t111 == 0) = true := beq_iff_eq.mpr c9
          have c9b1 : (t111 != 0) = false := bne_eq_false_iff_eq.mpr c9
          clear c9
          have H' := Aside0.mk H
          clear H
          go_wp2
          go_meet
          case rel => exact ⟨_, ((t115 != 0)), (by first | rfl | (simp; done) | (simp [*]; done)), H', ⟨by first | omega | exact Nat.le_refl _⟩, by repeat (first | exact Drawn0.refl _ | apply Drawn0.step)⟩
        · rw [if_neg c9] at H
          have c9b0 : (t111 == 0) = false := beq_eq_false_iff_ne.mpr c9
          have c9b1 : (t111 != 0) = true := bne_iff_ne.mpr c9
          have H' := Aside0.mk H
          clear H
          go_wp2
          go_meet
          case rel => exact ⟨_, (true), (by first | rfl | (simp; done) | (simp [*]; done)), H', ⟨by first | omega | exact Nat.le_refl _⟩, by repeat (first | exact Drawn0.refl _ | apply Drawn0.step)⟩
      · rw [if_neg c8] at H
        have c8b0 : (t119 == 0) = false := beq_eq_false_iff_ne.mpr c8
        have c8b1 : (t119 != 0) = true := bne_iff_ne.mpr c8
        have H' := Aside0.mk H
        clear H
        go_wp2
        go_meet
        case rel => exact ⟨_, (true), (by first | rfl | (simp; done) | (simp [*]; done)), H', ⟨by first | omega | exact Nat.le_refl _⟩, by repeat (first | exact Drawn0.refl _ | apply Drawn0.step)⟩
    · rw [if_neg c7] at H
      have c7b0 : (t116 == 1970) = false := beq_eq_false_iff_ne.mpr c7
      have c7b1 : (t116 != 1970) = true := bne_iff_ne.mpr c7
      (first | rw [c7b0] | (simp only [i64_w, i32_w]; rw [c7b0]) | skip)
      have H' := Aside0.mk H
      clear H
      go_wp2
      go_meet
      case rel => exact ⟨_, (true), (by first | rfl | (simp; done) | (simp [*]; done)), H', ⟨by first | omega | exact Nat.le_refl _⟩, by repeat (first | exact Drawn0.refl _ | apply Drawn0.step)⟩
  case rest =>
    clear HC6
    try clear c1
    try clear c2
    try clear p2
    try clear p6
    try clear c7
    try clear c7b0
    try clear c7b1
    try clear c8
    try clear c8b0
    try clear c8b1
    try clear c9
    try clear c9b0
    try clear c9b1
    obtain ⟨kq, x52_5, rfl, HA, HJ5, ⟨mc5, rfl⟩⟩ := hcut
    cases kq with
    | zero => exact absurd HA.out (by simp [creelkeep_ListNext.j0])
    | succ kj5 =>
      have H := HA.out
      clear HA
      simp only [creelkeep_ListNext.j0] at H
      by_cases c10 : x52_5 = true
      · subst c10
        have H1 : (some false) = some r := by rw [if_pos rfl] at H; exact H
        clear H
        have H := H1
        clear H1
        obtain rfl := Option.some.inj H
        go_wp2
        go_ret
        exact ⟨by first | rfl | (simp; done) | (simp [*]; done), by repeat (first | exact Drawn0.refl _ | apply Drawn0.step)⟩
      · replace c10 := Bool.eq_false_iff.mpr c10
        subst c10
        have H1 : (if t112 = t108 then (creelkeep_ListNext.j1 kj5 t108 t109 t110 t112 t113 t114 (t113 == t109)) else (creelkeep_ListNext.j1 kj5 t108 t109 t110 t112 t113 t114 false)) = some r := by rw [if_neg (show ¬ (false = true) by decide)] at H; exact H
        clear H
        have H := H1
        clear H1
        have HC11 := Aside0.mk H
        clear H
        go_upto_region 7 with (fail)
        go_cut [53] (fun v53 wc => ∃ (kq : Nat) (x53_10 : Bool), v53 = .bool x53_10 ∧ Aside0 (creelkeep_ListNext.j1 kq t108 t109 t110 t112 t113 t114 x53_10 = some r) ∧ Aside0 (kq ≤ kj5) ∧ Drawn0 w wc)
        case first =>
          have H := HC11.out
          clear HC11
          by_cases c12 : t112 = t108
          · rw [if_pos c12] at H
            have c12b0 : (t112 == t108) = true := beq_iff_eq.mpr c12
            have c12b1 : (t112 != t108) = false := bne_eq_false_iff_eq.mpr c12
            clear c12
            (first | rw [c12b0] | (simp only [i64_w, i32_w]; rw [c12b0]) | skip)
            have H' := Aside0.mk H
            clear H
            go_wp2
            go_meet
            case rel => exact ⟨_, ((t113 == t109)), (by first | rfl | (simp; done) | (simp [*]; done)), H', ⟨by have := HJ5.out; first | omega | exact Nat.le_refl _⟩, by repeat (first | exact Drawn0.refl _ | apply Drawn0.step)⟩
          · rw [if_neg c12] at H
            have c12b0 : (t112 == t108) = false := beq_eq_false_iff_ne.mpr c12
            have c12b1 : (t112 != t108) = true := bne_iff_ne.mpr c12
            (first | rw [c12b0] | (simp only [i64_w, i32_w]; rw [c12b0]) | skip)
            have H' := Aside0.mk H
            clear H
            go_wp2
            go_meet
            case rel => exact ⟨_, (false), (by first | rfl | (simp; done) | (simp [*]; done)), H', ⟨by have := HJ5.out; first | omega | exact Nat.le_refl _⟩, by repeat (first | exact Drawn0.refl _ | apply Drawn0.step)⟩
        case rest =>
          clear HC11
          try clear c1
          try clear c2
          try clear p2
          try clear c5
          try clear p6
          try clear c7
          try clear c7b0
          try clear c7b1
          try clear c8
          try clear c8b0
          try clear c8b1
          try clear c9
          try clear c9b0
          try clear c9b1
          try clear c10
          try clear c12
          try clear c12b0
          try clear c12b1
          try clear p2
          try clear p6
          obtain ⟨kq, x53_10, rfl, HA, HJ10, ⟨mc10, rfl⟩⟩ := hcut
          cases kq with
          | zero => exact absurd HA.out (by simp [creelkeep_ListNext.j1])
          | succ kj10 =>
            have H := HA.out
            clear HA
            simp only [creelkeep_ListNext.j1] at H
            by_cases c13 : x53_10 = true
            · subst c13
              have H1 : (some (t114 == (wrap64 (t110 + 1)))) = some r := by rw [if_pos rfl] at H; exact H
              clear H
              have H := H1
              clear H1
              obtain rfl := Option.some.inj H
              go_wp2
              go_ret
              exact ⟨by first | rfl | (simp; done) | (simp [*]; done), by repeat (first | exact Drawn0.refl _ | apply Drawn0.step)⟩
            · replace c13 := Bool.eq_false_iff.mpr c13
              subst c13
              have H1 : (if t112 = t108 then (if t113 = (wrap64 (t109 + 1)) then (if t114 = 1 then (some (decide (t110 ≥ 28))) else (some false)) else (some false)) else (if t112 = (wrap64 (t108 + 1)) then (if t113 = 1 then (if t114 = 1 then (if t109 = 12 then (some (t110 == 31)) else (some false)) else (some false)) else (some false)) else (some false))) = some r := by rw [if_neg (show ¬ (false = true) by decide)] at H; exact H
              clear H
              have H := H1
              clear H1
              by_cases c14 : t112 = t108
              · rw [if_pos c14] at H
                have c14b0 : (t112 == t108) = true := beq_iff_eq.mpr c14
                have c14b1 : (t112 != t108) = false := bne_eq_false_iff_eq.mpr c14
                clear c14
                by_cases c15 : t113 = (wrap64 (t109 + 1))
                · rw [if_pos c15] at H
                  have c15b0 : (t113 == (wrap64 (t109 + 1))) = true := beq_iff_eq.mpr c15
                  have c15b1 : (t113 != (wrap64 (t109 + 1))) = false := bne_eq_false_iff_eq.mpr c15
                  clear c15
                  by_cases c16 : t114 = 1
                  · rw [if_pos c16] at H
                    have c16b0 : (t114 == 1) = true := beq_iff_eq.mpr c16
                    have c16b1 : (t114 != 1) = false := bne_eq_false_iff_eq.mpr c16
                    clear c16
                    obtain rfl := Option.some.inj H
                    go_wp2
                    go_ret
                    exact ⟨by first | rfl | (simp; done) | (simp [*]; done), by repeat (first | exact Drawn0.refl _ | apply Drawn0.step)⟩
                  · rw [if_neg c16] at H
                    have c16b0 : (t114 == 1) = false := beq_eq_false_iff_ne.mpr c16
                    have c16b1 : (t114 != 1) = true := bne_iff_ne.mpr c16
                    obtain rfl := Option.some.inj H
                    go_wp2
                    go_ret
                    exact ⟨by first | rfl | (simp; done) | (simp [*]; done), by repeat (first | exact Drawn0.refl _ | apply Drawn0.step)⟩
                · rw [if_neg c15] at H
                  have c15b0 : (t113 == (wrap64 (t109 + 1))) = false := beq_eq_false_iff_ne.mpr c15
                  have c15b1 : (t113 != (wrap64 (t109 + 1))) = true := bne_iff_ne.mpr c15
                  obtain rfl := Option.some.inj H
                  go_wp2
                  go_ret
                  exact ⟨by first | rfl | (simp; done) | (simp [*]; done), by repeat (first | exact Drawn0.refl _ | apply Drawn0.step)⟩
              · rw [if_neg c14] at H
                have c14b0 : (t112 == t108) = false := beq_eq_false_iff_ne.mpr c14
                have c14b1 : (t112 != t108) = true := bne_iff_ne.mpr c14
                by_cases c17 : t112 = (wrap64 (t108 + 1))
                · rw [if_pos c17] at H
                  have c17b0 : (t112 == (wrap64 (t108 + 1))) = true := beq_iff_eq.mpr c17
                  have c17b1 : (t112 != (wrap64 (t108 + 1))) = false := bne_eq_false_iff_eq.mpr c17
                  clear c17
                  by_cases c18 : t113 = 1
                  · rw [if_pos c18] at H
                    have c18b0 : (t113 == 1) = true := beq_iff_eq.mpr c18
                    have c18b1 : (t113 != 1) = false := bne_eq_false_iff_eq.mpr c18
                    clear c18
                    by_cases c19 : t114 = 1
                    · rw [if_pos c19] at H
                      have c19b0 : (t114 == 1) = true := beq_iff_eq.mpr c19
                      have c19b1 : (t114 != 1) = false := bne_eq_false_iff_eq.mpr c19
                      clear c19
                      by_cases c20 : t109 = 12
                      · rw [if_pos c20] at H
                        have c20b0 : (t109 == 12) = true := beq_iff_eq.mpr c20
                        have c20b1 : (t109 != 12) = false := bne_eq_false_iff_eq.mpr c20
                        clear c20
                        obtain rfl := Option.some.inj H
                        go_wp2
                        go_ret
                        exact ⟨by first | rfl | (simp; done) | (simp [*]; done), by repeat (first | exact Drawn0.refl _ | apply Drawn0.step)⟩
                      · rw [if_neg c20] at H
                        have c20b0 : (t109 == 12) = false := beq_eq_false_iff_ne.mpr c20
                        have c20b1 : (t109 != 12) = true := bne_iff_ne.mpr c20
                        obtain rfl := Option.some.inj H
                        go_wp2
                        go_ret
                        exact ⟨by first | rfl | (simp; done) | (simp [*]; done), by repeat (first | exact Drawn0.refl _ | apply Drawn0.step)⟩
                    · rw [if_neg c19] at H
                      have c19b0 : (t114 == 1) = false := beq_eq_false_iff_ne.mpr c19
                      have c19b1 : (t114 != 1) = true := bne_iff_ne.mpr c19
                      obtain rfl := Option.some.inj H
                      go_wp2
                      go_ret
                      exact ⟨by first | rfl | (simp; done) | (simp [*]; done), by repeat (first | exact Drawn0.refl _ | apply Drawn0.step)⟩
                  · rw [if_neg c18] at H
                    have c18b0 : (t113 == 1) = false := beq_eq_false_iff_ne.mpr c18
                    have c18b1 : (t113 != 1) = true := bne_iff_ne.mpr c18
                    obtain rfl := Option.some.inj H
                    go_wp2
                    go_ret
                    exact ⟨by first | rfl | (simp; done) | (simp [*]; done), by repeat (first | exact Drawn0.refl _ | apply Drawn0.step)⟩
                · rw [if_neg c17] at H
                  have c17b0 : (t112 == (wrap64 (t108 + 1))) = false := beq_eq_false_iff_ne.mpr c17
                  have c17b1 : (t112 != (wrap64 (t108 + 1))) = true := bne_iff_ne.mpr c17
                  obtain rfl := Option.some.inj H
                  go_wp2
                  go_ret
                  exact ⟨by first | rfl | (simp; done) | (simp [*]; done), by repeat (first | exact Drawn0.refl _ | apply Drawn0.step)⟩

/-- THE ONE PURE STATEMENT of creelkeep_ListNext: yours. -/
def creelkeep_ListNext.Pure : Prop := ∀ (a0 : Int), (Lit.int .i64 a0).wf = true → ∃ k, creelkeep_ListNext.f k a0 = some true
theorem creelkeep_ListNext.walk (P : creelkeep_ListNext.Pure) (a0 : Int) (w : World) (w0 : (Lit.int .i64 a0).wf = true) :
    Calls Try.prog 9 #[.int .i64 a0] w fun e w' => e = .returned (.bool true) ∧ Below w.heap.size w w' := by
  obtain ⟨k, h⟩ := P a0 w0
  refine (creelkeep_ListNext.calls k a0 true w h).mono ?_
  rintro e w' ⟨rfl, hd⟩
  exact ⟨rfl, hd.below⟩

end Go.Proofs.Ytbhdfjdopphhdaa.PListNext
