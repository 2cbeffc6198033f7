/- Without the three highest bits, every character of the symbolic form is its letter or a hyphen: for every int, brought into 0 .. 511. -/
import Derived.Test.YtbhdfjdopphhdaaPMetaPlainx1
import Derived.OpenShut
namespace Go.Proofs.Ytbhdfjdopphhdaa.Pure
open Go.RowKit Go.Proofs.Ytbhdfjdopphhdaa.PMetaPlain Go.Proofs.YtbhdfjdopphhdaaW.PrintWords Go.Proofs.YtbhdfjdopphhdaaW.PrintLast Go.Proofs.YtbhdfjdopphhdaaW.PrintMore
set_option linter.unusedVariables false
set_option linter.unusedSimpArgs false

theorem w64 {n : Int} (h1 : -9223372036854775808 ≤ n) (h2 : n ≤ 9223372036854775807) : wrap64 n = n := by
  unfold wrap64
  omega

theorem picked_spec {a m : Int} (hw : (Lit.int .i64 a).wf = true) (hm : 0 < m) : ∃ t, creelkeep_picked.f a m = some t ∧ 0 ≤ t ∧ t < m := by
  obtain ⟨h1, h2⟩ := bounds_i64 hw
  unfold creelkeep_picked.f
  have e : ¬ m = 0 := by omega
  by_cases h : a < 0
  · rw [if_pos h, if_neg e, w64 (n := a + 1) (by omega) (by omega), w64 (by omega) (by omega)]
    exact ⟨_, rfl, Int.tmod_nonneg _ (by omega), Int.tmod_lt_of_pos _ hm⟩
  · rw [if_neg h, if_neg e]
    exact ⟨_, rfl, Int.tmod_nonneg _ (by omega), Int.tmod_lt_of_pos _ hm⟩

def allB (p : Nat → Bool) : Nat → Nat → Bool
  | 0, b => p b
  | k + 1, b => allB p k (2 * b) && allB p k (2 * b + 1)
theorem allB_at (p : Nat → Bool) : ∀ (k b : Nat), allB p k b = true → ∀ n, b * 2 ^ k ≤ n → n < (b + 1) * 2 ^ k → p n = true
  | 0, b, h, n, h1, h2 => by
    have : n = b := by omega
    subst this; exact h
  | k + 1, b, h, n, h1, h2 => by
    simp only [allB, Bool.and_eq_true] at h
    rw [Nat.pow_succ] at h1 h2
    by_cases c : n < (2 * b + 1) * 2 ^ k
    · exact allB_at p k (2 * b) h.1 n (by rw [Nat.mul_comm 2 b, Nat.mul_assoc, Nat.mul_comm 2 (2 ^ k)]; exact h1) c
    · exact allB_at p k (2 * b + 1) h.2 n (by omega) (by
        have : (2 * b + 1 + 1) * 2 ^ k = (b + 1) * (2 ^ k * 2) := by rw [Nat.mul_comm (2 ^ k) 2, ← Nat.mul_assoc]; congr 1; omega
        omega)

def plainOk (t : Int) : Bool := decide (((meta_Text.f t).bind fun bt102 => (if bt102.2 = 0 then (creelkeep_MetaPlain.j0 20 t bt102.1 ((bt102.1.size : Int) != 9)) else (creelkeep_MetaPlain.j0 20 t bt102.1 true))) = some true)
theorem plain0 : allB (fun n => plainOk (n : Int)) 7 0 = true := by decide +kernel
theorem plain1 : allB (fun n => plainOk (n : Int)) 7 1 = true := by decide +kernel
theorem plain2 : allB (fun n => plainOk (n : Int)) 7 2 = true := by decide +kernel
theorem plain3 : allB (fun n => plainOk (n : Int)) 7 3 = true := by decide +kernel
theorem plain_all (b : Nat) (hb : b < 4) : allB (fun n => plainOk (n : Int)) 7 b = true := by
  obtain rfl | rfl | rfl | rfl : b = 0 ∨ b = 1 ∨ b = 2 ∨ b = 3 := by omega
  · exact plain0
  · exact plain1
  · exact plain2
  · exact plain3
theorem MetaPlain : creelkeep_MetaPlain.Pure := by
  intro a ha
  obtain ⟨x, hx, x0, x1⟩ := picked_spec (m := 512) ha (by decide)
  refine ⟨20, ?_⟩
  unfold creelkeep_MetaPlain.f
  rw [hx]
  simp only [Option.bind_some]
  have h := allB_at _ 7 (x.toNat / 128) (plain_all _ (by omega)) x.toNat (by omega) (by omega)
  have e : ((x.toNat : Nat) : Int) = x := by omega
  simp only [e] at h
  exact of_decide_eq_true h

end Go.Proofs.Ytbhdfjdopphhdaa.Pure
