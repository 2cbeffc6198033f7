/- Told anew. -/
import Derived.Test.YtdhikkdkjmeiiaaGreatDoorRnames
import Derived.Test.YtdhikkdkjmeiiaaGreatDoorDr7
namespace Go.Proofs.YtdhikkdkjmeiiaaGreatDoor.Abs
open Go.RowKit Go.MapKept
set_option linter.unusedVariables false
set_option linter.unusedSimpArgs false
set_option maxRecDepth 100000
set_option maxHeartbeats 4000000
def anewN (L : List Int) (x : NodeT) (q : Int) : NodeT := { x with same := if countL L q > 1 then q + 1 else 0 }
def anewL (t : List NodeT) : List NodeT := List.zipWith (anewN (firstsL t 0 []).1) t (firstsL t 0 []).1
theorem anew_len (t : List NodeT) : (anewL t).length = t.length := by
  unfold anewL
  rw [List.length_zipWith, firsts_len, Nat.min_self]
theorem mix_at {A t : List NodeT} {k : Nat} (hl : A.length = t.length) {x : NodeT} (hx : t[k]? = some x) : (A.take k ++ t.drop k)[k]? = some x := by
  have hk := (List.getElem?_eq_some_iff.1 hx).1
  rw [List.getElem?_append_right (by rw [List.length_take]; omega), List.length_take, Nat.min_eq_left (by omega), Nat.sub_self, List.getElem?_drop, Nat.add_zero, hx]
theorem mix_set {A t : List NodeT} {k : Nat} (hl : A.length = t.length) {x : NodeT} (hx : t[k]? = some x) (y : NodeT) : (A.take k ++ t.drop k).set k y = A.take k ++ y :: t.drop (k + 1) := by
  have hk := (List.getElem?_eq_some_iff.1 hx).1
  rw [List.set_append_right _ _ (by rw [List.length_take]; omega), List.length_take, Nat.min_eq_left (by omega), Nat.sub_self, drop_at hx]
  rfl
theorem mix_next {A t : List NodeT} {k : Nat} {y : NodeT} (hy : A[k]? = some y) : A.take k ++ y :: t.drop (k + 1) = A.take (k + 1) ++ t.drop (k + 1) := by
  rw [take_snoc hy, List.append_assoc]; rfl
theorem mix_setat {A r : List NodeT} {k : Nat} (hk : k ≤ A.length) (y z : NodeT) : (A.take k ++ y :: r)[k]? = some y ∧ (A.take k ++ y :: r).set k z = A.take k ++ z :: r := by
  have hl : (A.take k).length = k := by rw [List.length_take]; omega
  constructor
  · rw [List.getElem?_append_right (by omega), hl, Nat.sub_self]; rfl
  · rw [List.set_append_right _ _ (by omega), hl, Nat.sub_self]; rfl
end Go.Proofs.YtdhikkdkjmeiiaaGreatDoor.Abs
