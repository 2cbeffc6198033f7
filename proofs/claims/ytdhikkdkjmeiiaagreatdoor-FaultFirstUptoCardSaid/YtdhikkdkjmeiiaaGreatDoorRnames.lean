/- How many names each node has; told anew. -/
import Derived.Test.YtdhikkdkjmeiiaaGreatDoorRcopy
import Derived.Test.YtdhikkdkjmeiiaaGreatDoorRlink
namespace Go.Proofs.YtdhikkdkjmeiiaaGreatDoor.Abs
open Go.RowKit Go.MapKept
set_option linter.unusedVariables false
set_option linter.unusedSimpArgs false
set_option maxRecDepth 100000
set_option maxHeartbeats 4000000
def countL (l : List Int) (i : Int) : Int := ((l.count i : Nat) : Int)
def namesL (l : List Int) : List Int := l.map (countL l)
def bump (i : Int) : List (Int × Int) → List (Int × Int)
  | [] => [(i, 1)]
  | (j, x) :: m => if i = j then (i, x + 1) :: m else (j, x) :: bump i m
theorem bump_set (i : Int) : ∀ m : List (Int × Int), kvSet (.int .i64 i) (.v (.int .i64 ((m.lookup i).getD 0 + 1))) (m.map kvI) = (bump i m).map kvI
  | [] => rfl
  | (j, x) :: m => by
    have ih := bump_set i m
    rw [List.map_cons, kvI, kvSet, bump, List.lookup]
    simp only [keyEq, decide_true, Bool.true_and]
    by_cases h : i = j
    · subst h
      simp [kvI]
    · have hb : (i == j) = false := by simpa using h
      rw [hb, if_neg (by simp), if_neg h]
      rw [List.map_cons, ← ih]
      rfl
theorem bump_at (i k : Int) : ∀ m : List (Int × Int), ((bump i m).lookup k).getD 0 = (m.lookup k).getD 0 + (if k = i then 1 else 0)
  | [] => by
    rw [bump]
    show ((match k == i with | true => some 1 | false => none) : Option Int).getD 0 = _
    by_cases h : k = i
    · subst h; simp
    · have hb : (k == i) = false := by simpa using h
      rw [hb, if_neg h]
      rfl
  | (j, x) :: m => by
    have ih := bump_at i k m
    rw [bump]
    by_cases h : i = j
    · subst h
      rw [if_pos rfl, List.lookup, List.lookup]
      by_cases h2 : k = i
      · subst h2; simp
      · have hb : (k == i) = false := by simpa using h2
        rw [hb, if_neg h2]
        simp
    · rw [if_neg h, List.lookup, List.lookup]
      by_cases h2 : k = j
      · subst h2
        rw [if_neg (fun e => h e.symm)]
        simp
      · have hb : (k == j) = false := by simpa using h2
        rw [hb]
        exact ih
theorem bump_len (i : Int) : ∀ m : List (Int × Int), (bump i m).length ≤ m.length + 1
  | [] => Nat.le_refl _
  | (j, x) :: m => by
    rw [bump]
    split
    · simp
    · have := bump_len i m
      simp only [List.length_cons]
      omega
theorem firsts_len : ∀ (l : List NodeT) (k : Nat) (m : List (Int × Int)), (firstsL l k m).1.length = l.length
  | [], _, _ => rfl
  | n :: r, k, m => by rw [firstsL, List.length_cons, List.length_cons, firsts_len r]
end Go.Proofs.YtdhikkdkjmeiiaaGreatDoor.Abs
