/- Differences: what they say. -/
import Derived.Test.YtghnifboofhcdaaDoorRdiff
import Derived.Test.YtghnifboofhcdaaDoorRpure
namespace Go.Proofs.YtghnifboofhcdaaDoor.Abs
open Go.RowKit Go.MapKept
set_option linter.unusedVariables false
set_option linter.unusedSimpArgs false
set_option maxRecDepth 100000
set_option maxHeartbeats 4000000
theorem cmp_zero {a b : ByteArray} (ha : pathChk a = 0) (hb : pathChk b = 0) : compareF a b = 0 ↔ a = b := by
  rw [compare_less ha hb, lessF_tot.zero]
theorem node_eq {a b : NodeT} : a = b ↔ sameF a b = true ∧ a.same = b.same := by
  unfold sameF
  cases a; cases b
  simp
  constructor
  · rintro ⟨h1, h2, h3, h4, h5, h6⟩; exact ⟨⟨h1, h2, h4, h5, h6⟩, h3⟩
  · rintro ⟨⟨h1, h2, h4, h5, h6⟩, h3⟩; exact ⟨h1, h2, h3, h4, h5, h6⟩
theorem diff_nil : ∀ (n : Nat) (l m : List NodeT), l.length + m.length ≤ n → (∀ x ∈ l, pathChk x.path = 0) → (∀ x ∈ m, pathChk x.path = 0) → (diffF n l m = [] ↔ l = m)
  | 0, [], [], _, _, _ => by simp [diffF]
  | 0, _ :: _, _, h, _, _ => by simp at h
  | 0, [], _ :: _, h, _, _ => by simp at h
  | n + 1, [], [], _, _, _ => by simp [diffF]
  | n + 1, a :: l, [], _, _, _ => by simp [diffF]
  | n + 1, [], b :: m, _, _, _ => by simp [diffF]
  | n + 1, a :: l, b :: m, h, hl, hm => by
    have ha := hl a (List.mem_cons_self ..)
    have hb := hm b (List.mem_cons_self ..)
    have hz := cmp_zero ha hb
    simp only [List.length_cons] at h
    have ih := diff_nil n l m (by omega) (fun x hx => hl x (List.mem_cons_of_mem _ hx)) (fun x hx => hm x (List.mem_cons_of_mem _ hx))
    rw [diffF]
    by_cases h1 : compareF a.path b.path < 0
    · rw [if_pos h1]
      refine ⟨fun h => (by cases h), fun h => ?_⟩
      injection h with h _
      rw [h, (cmp_zero hb hb).2 rfl] at h1
      omega
    rw [if_neg h1]
    by_cases h2 : compareF a.path b.path > 0
    · rw [if_pos h2]
      refine ⟨fun h => (by cases h), fun h => ?_⟩
      injection h with h _
      rw [h, (cmp_zero hb hb).2 rfl] at h2
      omega
    rw [if_neg h2]
    by_cases h3 : (!sameF a b || !decide (a.same = b.same)) = true
    · rw [if_pos h3]
      refine ⟨fun h => (by cases h), fun h => ?_⟩
      injection h with h _
      obtain ⟨h4, h5⟩ := node_eq.1 h
      rw [h4, decide_eq_true h5] at h3
      cases h3
    · rw [if_neg h3, ih]
      have h4 : a = b := node_eq.2 (by simpa using h3)
      rw [h4]
      simp
end Go.Proofs.YtghnifboofhcdaaDoor.Abs
