/- Parsing the symbolic form of a mode returns the mode: for every int, brought into 0 .. 4095. -/
import Derived.Test.YtbhdfjdopphhdaaPMetaBackx1
import Derived.OpenShut
namespace Go.Proofs.Ytbhdfjdopphhdaa.Pure
open Go.RowKit Go.Proofs.Ytbhdfjdopphhdaa.PMetaBack Go.Proofs.YtbhdfjdopphhdaaW.PrintWords Go.Proofs.YtbhdfjdopphhdaaW.PrintLast Go.Proofs.YtbhdfjdopphhdaaW.PrintMore
set_option linter.unusedVariables false
set_option linter.unusedSimpArgs false

theorem w64 {n : Int} (h1 : -9223372036854775808 ≤ n) (h2 : n ≤ 9223372036854775807) : wrap64 n = n := by
  unfold wrap64
  omega

theorem picked_spec {a m : Int} (hw : (Lit.int .i64 a).wf = true) (hm : 0 < m) : ∃ t, creelkeep_picked.f a m = some t ∧ 0 ≤ t ∧ t < m := by
  obtain ⟨h1, h2⟩ := bounds_i64 hw
  unfold creelkeep_picked.f
  have e : ¬ m = 0 := by omega
  by_cases h : a < 0
  · rw [if_pos h, if_neg e, w64 (n := a + 1) (by omega) (by omega), w64 (by omega) (by omega)]
    exact ⟨_, rfl, Int.tmod_nonneg _ (by omega), Int.tmod_lt_of_pos _ hm⟩
  · rw [if_neg h, if_neg e]
    exact ⟨_, rfl, Int.tmod_nonneg _ (by omega), Int.tmod_lt_of_pos _ hm⟩

def allB (p : Nat → Bool) : Nat → Nat → Bool
  | 0, b => p b
  | k + 1, b => allB p k (2 * b) && allB p k (2 * b + 1)
theorem allB_at (p : Nat → Bool) : ∀ (k b : Nat), allB p k b = true → ∀ n, b * 2 ^ k ≤ n → n < (b + 1) * 2 ^ k → p n = true
  | 0, b, h, n, h1, h2 => by
    have : n = b := by omega
    subst this; exact h
  | k + 1, b, h, n, h1, h2 => by
    simp only [allB, Bool.and_eq_true] at h
    rw [Nat.pow_succ] at h1 h2
    by_cases c : n < (2 * b + 1) * 2 ^ k
    · exact allB_at p k (2 * b) h.1 n (by rw [Nat.mul_comm 2 b, Nat.mul_assoc, Nat.mul_comm 2 (2 ^ k)]; exact h1) c
    · exact allB_at p k (2 * b + 1) h.2 n (by omega) (by
        have : (2 * b + 1 + 1) * 2 ^ k = (b + 1) * (2 ^ k * 2) := by rw [Nat.mul_comm (2 ^ k) 2, ← Nat.mul_assoc]; congr 1; omega
        omega)

/-- The text of mode t is parsed as t. -/
def backOk (t : Int) : Bool := decide (meta_Text.f t = some (strOfNums (mtTwo t 3), 0) ∧ meta_Parse.f 64 (strOfNums (mtTwo t 3)) = some (t, 0))
theorem back0 : allB (fun n => backOk (n : Int)) 8 0 = true := by decide +kernel
theorem back1 : allB (fun n => backOk (n : Int)) 8 1 = true := by decide +kernel
theorem back2 : allB (fun n => backOk (n : Int)) 8 2 = true := by decide +kernel
theorem back3 : allB (fun n => backOk (n : Int)) 8 3 = true := by decide +kernel
theorem back4 : allB (fun n => backOk (n : Int)) 8 4 = true := by decide +kernel
theorem back5 : allB (fun n => backOk (n : Int)) 8 5 = true := by decide +kernel
theorem back6 : allB (fun n => backOk (n : Int)) 8 6 = true := by decide +kernel
theorem back7 : allB (fun n => backOk (n : Int)) 8 7 = true := by decide +kernel
theorem back8 : allB (fun n => backOk (n : Int)) 8 8 = true := by decide +kernel
theorem back9 : allB (fun n => backOk (n : Int)) 8 9 = true := by decide +kernel
theorem back10 : allB (fun n => backOk (n : Int)) 8 10 = true := by decide +kernel
theorem back11 : allB (fun n => backOk (n : Int)) 8 11 = true := by decide +kernel
theorem back12 : allB (fun n => backOk (n : Int)) 8 12 = true := by decide +kernel
theorem back13 : allB (fun n => backOk (n : Int)) 8 13 = true := by decide +kernel
theorem back14 : allB (fun n => backOk (n : Int)) 8 14 = true := by decide +kernel
theorem back15 : allB (fun n => backOk (n : Int)) 8 15 = true := by decide +kernel
theorem back_all (b : Nat) (hb : b < 16) : allB (fun n => backOk (n : Int)) 8 b = true := by
  obtain rfl | rfl | rfl | rfl | rfl | rfl | rfl | rfl | rfl | rfl | rfl | rfl | rfl | rfl | rfl | rfl : b = 0 ∨ b = 1 ∨ b = 2 ∨ b = 3 ∨ b = 4 ∨ b = 5 ∨ b = 6 ∨ b = 7 ∨ b = 8 ∨ b = 9 ∨ b = 10 ∨ b = 11 ∨ b = 12 ∨ b = 13 ∨ b = 14 ∨ b = 15 := by omega
  · exact back0
  · exact back1
  · exact back2
  · exact back3
  · exact back4
  · exact back5
  · exact back6
  · exact back7
  · exact back8
  · exact back9
  · exact back10
  · exact back11
  · exact back12
  · exact back13
  · exact back14
  · exact back15
theorem back_at (t : Int) (h0 : 0 ≤ t) (h1 : t < 4096) : meta_Text.f t = some (strOfNums (mtTwo t 3), 0) ∧ meta_Parse.f 64 (strOfNums (mtTwo t 3)) = some (t, 0) := by
  have h := allB_at _ 8 (t.toNat / 256) (back_all _ (by omega)) t.toNat (by omega) (by omega)
  have e : ((t.toNat : Nat) : Int) = t := by omega
  simp only [e] at h
  exact of_decide_eq_true h
theorem mtTwo_len (t : Int) : (mtTwo t 3).length = 9 := by
  have h : (mtOne t 9).length = 9 := by simp [mtOne]
  have g : ∀ l n v, (mtSign l n v).length = l.length := fun l n v => by simp [mtSign]
  simp only [mtTwo]
  repeat' split
  all_goals simp [g, h]

theorem MetaBack : creelkeep_MetaBack.Pure := by
  intro a ha
  obtain ⟨x, hx, x0, x1⟩ := picked_spec (m := 4096) ha (by decide)
  refine ⟨64, ?_⟩
  unfold creelkeep_MetaBack.f
  obtain ⟨h1, h2⟩ := back_at x x0 (by omega)
  rw [hx]
  simp only [Option.bind_some]
  rw [h1]
  simp only [Option.bind_some]
  rw [h2]
  simp only [Option.bind_some, if_true]
  rw [strOfNums_size, mtTwo_len]
  rfl

end Go.Proofs.Ytbhdfjdopphhdaa.Pure
