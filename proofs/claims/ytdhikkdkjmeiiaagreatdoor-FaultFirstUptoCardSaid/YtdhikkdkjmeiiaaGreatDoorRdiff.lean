/- Differences of trees. -/
import Derived.Test.YtdhikkdkjmeiiaaGreatDoorRsame
namespace Go.Proofs.YtdhikkdkjmeiiaaGreatDoor.Abs
open Go.RowKit Go.MapKept
set_option linter.unusedVariables false
set_option linter.unusedSimpArgs false
set_option maxRecDepth 100000
set_option maxHeartbeats 4000000
def encD (p : Int × NodeT) : List AV := .v (.int .i64 p.1) :: encNode p.2
def sameF (a b : NodeT) : Bool := decide (a.path = b.path) && (decide (a.kind = b.kind) && (decide (a.target = b.target) && (decide (a.mt = b.mt) && decide (a.data = b.data))))
/-- The changes from one tree to another. -/
def diffF : Nat → List NodeT → List NodeT → List (Int × NodeT)
  | 0, _, _ => []
  | _ + 1, [], [] => []
  | n + 1, a :: l, [] => (1, a) :: diffF n l []
  | n + 1, [], b :: m => (2, b) :: diffF n [] m
  | n + 1, a :: l, b :: m => if compareF a.path b.path < 0 then (1, a) :: diffF n l (b :: m) else if compareF a.path b.path > 0 then (2, b) :: diffF n (a :: l) m else if (!sameF a b || !decide (a.same = b.same)) = true then (3, b) :: diffF n l m else diffF n l m
theorem diffF_fuel : ∀ (n : Nat) (l m : List NodeT) (k : Nat), l.length + m.length ≤ n → l.length + m.length ≤ k → diffF n l m = diffF k l m
  | 0, [], [], 0, _, _ => rfl
  | 0, [], [], k + 1, _, _ => rfl
  | 0, _ :: _, _, _, h, _ => by simp at h
  | 0, [], _ :: _, _, h, _ => by simp at h
  | n + 1, [], [], 0, _, _ => rfl
  | n + 1, [], [], k + 1, _, _ => rfl
  | n + 1, _ :: _, _, 0, _, h => by simp at h
  | n + 1, [], _ :: _, 0, _, h => by simp at h
  | n + 1, a :: l, [], k + 1, h1, h2 => by
    rw [diffF, diffF, diffF_fuel n l [] k (by simp at h1 ⊢; omega) (by simp at h2 ⊢; omega)]
  | n + 1, [], b :: m, k + 1, h1, h2 => by
    rw [diffF, diffF, diffF_fuel n [] m k (by simp at h1 ⊢; omega) (by simp at h2 ⊢; omega)]
  | n + 1, a :: l, b :: m, k + 1, h1, h2 => by
    simp only [List.length_cons] at h1 h2
    rw [diffF, diffF, diffF_fuel n l (b :: m) k (by simp only [List.length_cons]; omega) (by simp only [List.length_cons]; omega), diffF_fuel n (a :: l) m k (by simp only [List.length_cons]; omega) (by simp only [List.length_cons]; omega), diffF_fuel n l m k (by omega) (by omega)]
end Go.Proofs.YtdhikkdkjmeiiaaGreatDoor.Abs
