/- One that stands for any number fits all. -/
import Derived.Test.YtdhikkdkjmeiiaaGreatDoorRwild
namespace Go.Proofs.YtdhikkdkjmeiiaaGreatDoor.Abs
set_option linter.unusedVariables false
theorem wild_in {m : Nat} {star : Nat → Bool} {fit : Nat → Nat → Bool} : ∀ (f k : Nat), m - k < f → wildG 1 m star fit f 1 0 k k = true
  | 0, k, h => absurd h (Nat.not_lt_zero _)
  | f + 1, k, h => by
    rw [wildG]
    by_cases hk : k < m
    · rw [if_pos hk, if_neg (by omega), if_neg (by omega), if_pos (by decide)]
      exact wild_in f (k + 1) (by omega)
    · rw [if_neg hk]
      exact restB_end (Nat.le_refl _)
theorem wild_all {m : Nat} {star : Nat → Bool} {fit : Nat → Nat → Bool} (h : star 0 = true) : wildF 1 m star fit = true := by
  unfold wildF
  rw [wildG]
  by_cases hk : 0 < m
  · rw [if_pos hk, if_pos ⟨by omega, h⟩]
    refine wild_in _ 0 ?_
    unfold wildM
    have h1 : ((1 : Nat) : Int) - (-1 + 1) = 1 := by omega
    rw [h1]
    have h2 : 1 * (m + 2) ≤ ((1 : Int).toNat * (m + 2) + (m - 0)) * (m + 2) := Nat.mul_le_mul_right _ (by show 1 ≤ 1 * (m + 2) + (m - 0); omega)
    omega
  · rw [if_neg hk, restB_step (by omega), h, Bool.true_and]
    exact restB_end (Nat.le_refl _)
end Go.Proofs.YtdhikkdkjmeiiaaGreatDoor.Abs
