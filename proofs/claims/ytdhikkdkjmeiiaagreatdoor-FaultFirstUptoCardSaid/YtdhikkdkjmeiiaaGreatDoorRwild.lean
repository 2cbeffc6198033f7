/- Things that fit one by one, where some stand for any number: the answer of glob.wild. -/
import Derived.Test.YtdhikkdkjmeiiaaGreatDoorRbase
namespace Go.Proofs.YtdhikkdkjmeiiaaGreatDoor.Abs
set_option linter.unusedVariables false
def restB (n : Nat) (star : Nat → Bool) (i : Nat) : Bool := (List.range' i (n - i)).all star
def wildG (n m : Nat) (star : Nat → Bool) (fit : Nat → Nat → Bool) : Nat → Nat → Int → Nat → Nat → Bool
  | 0, _, _, _, _ => false
  | f + 1, i, last, fr, k => if k < m then (if i < n ∧ star i = true then wildG n m star fit f (i + 1) (i : Int) k k else if i < n ∧ fit i k = true then wildG n m star fit f (i + 1) last fr (k + 1) else if last ≥ 0 then wildG n m star fit f (last + 1).toNat last (fr + 1) (fr + 1) else false) else restB n star i
def wildM (n m : Nat) (last : Int) (fr k : Nat) : Nat := (((n : Int) - (last + 1)).toNat * (m + 2) + (m - fr)) * (m + 2) + (m - k)
def wildF (n m : Nat) (star : Nat → Bool) (fit : Nat → Nat → Bool) : Bool := wildG n m star fit (wildM n m (-1) 0 0 + 1) 0 (-1) 0 0
theorem restB_step {n : Nat} {star : Nat → Bool} {i : Nat} (h : i < n) : restB n star i = (star i && restB n star (i + 1)) := by
  unfold restB
  rw [show n - i = (n - (i + 1)) + 1 by omega, List.range'_succ, List.all_cons]
theorem restB_end {n : Nat} {star : Nat → Bool} {i : Nat} (h : n ≤ i) : restB n star i = true := by
  unfold restB
  rw [show n - i = 0 by omega]
  rfl
theorem mul_step {A B a c d : Nat} (h : A < B) (hc : c ≤ a + 1) : A * (a + 2) + c < B * (a + 2) + d := by
  have h1 : (A + 1) * (a + 2) ≤ B * (a + 2) := Nat.mul_le_mul_right _ h
  rw [Nat.add_mul] at h1
  omega
theorem wildM_star {n m i : Nat} {last : Int} {fr k : Nat} (hi : i < n) (hl : last < (i : Int)) (hl0 : -1 ≤ last) (hf : fr ≤ k) (hk : k < m) : wildM n m (i : Int) k k < wildM n m last fr k := by
  unfold wildM
  refine mul_step ?_ (by omega)
  have h : ((n : Int) - ((i : Int) + 1)).toNat < ((n : Int) - (last + 1)).toNat := by omega
  exact mul_step h (by omega)
theorem wildM_fit {n m : Nat} {last : Int} {fr k : Nat} (hk : k < m) : wildM n m last fr (k + 1) < wildM n m last fr k := by
  unfold wildM
  omega
theorem wildM_back {n m : Nat} {last : Int} {fr k : Nat} (hf : fr ≤ k) (hk : k < m) : wildM n m last (fr + 1) (fr + 1) < wildM n m last fr k := by
  unfold wildM
  refine mul_step ?_ (by omega)
  omega
end Go.Proofs.YtdhikkdkjmeiiaaGreatDoor.Abs
