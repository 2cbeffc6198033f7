/- The law of link groups. -/
import Derived.Test.YtdhikkdkjmeiiaaGreatDoorRlink
import Derived.Test.YtdhikkdkjmeiiaaGreatDoorRpure
namespace Go.Proofs.YtdhikkdkjmeiiaaGreatDoor.Abs
open Go.RowKit Go.MapKept
set_option linter.unusedVariables false
set_option linter.unusedSimpArgs false
set_option maxRecDepth 100000
set_option maxHeartbeats 4000000
def fz (t : List NodeT) (i : Nat) : Int := (t[i]?.map (·.same)).getD 0
theorem fz_at {t : List NodeT} {i : Nat} {x : NodeT} (h : t[i]? = some x) : fz t i = x.same := by unfold fz; rw [h]; rfl
def IsFirst (t : List NodeT) (i q : Nat) : Prop := q ≤ i ∧ (q = i ∨ (fz t i ≠ 0 ∧ fz t q = fz t i)) ∧ (fz t i ≠ 0 → ∀ p, p < q → fz t p ≠ fz t i)
def MapOk (t : List NodeT) (k : Nat) (m : List (Int × Int)) : Prop := ∀ s, s ≠ 0 → (∀ j, m.lookup s = some j → ∃ q : Nat, j = (q : Int) ∧ q < k ∧ fz t q = s ∧ ∀ p, p < q → fz t p ≠ s) ∧ (m.lookup s = none → ∀ p, p < k → fz t p ≠ s)
theorem lookup_snoc {s a : Int} {j : Int} : ∀ m : List (Int × Int), (m ++ [(a, j)]).lookup s = match m.lookup s with
    | some x => some x
    | none => if s = a then some j else none
  | [] => by
    show (match s == a with | true => some j | false => none) = _
    by_cases h : s = a
    · rw [beq_iff_eq.2 h]; simp [h]
    · rw [beq_eq_false_iff_ne.2 h]; simp [h]
  | (b, x) :: m => by
    have ih := lookup_snoc (s := s) (a := a) (j := j) m
    rw [List.cons_append, List.lookup, List.lookup]
    cases s == b with
    | true => rfl
    | false => exact ih
theorem firsts_at {t : List NodeT} : ∀ (d k : Nat) (m : List (Int × Int)), k + d = t.length → MapOk t k m → (firstsL (t.drop k) k m).1.length = d ∧ ∀ i, i < d → ∃ q : Nat, (firstsL (t.drop k) k m).1[i]? = some (q : Int) ∧ IsFirst t (k + i) q
  | 0, k, m, hd, hm => by
    rw [List.drop_eq_nil_of_le (by omega)]
    exact ⟨rfl, fun i hi => by omega⟩
  | d + 1, k, m, hd, hm => by
    obtain ⟨x, hx⟩ : ∃ x, t[k]? = some x := ⟨t[k], List.getElem?_eq_getElem (by omega)⟩
    have hf : fz t k = x.same := fz_at hx
    have key : ∃ q : Nat, (meetR x.same (k : Int) m).1 = (q : Int) ∧ IsFirst t k q ∧ MapOk t (k + 1) (meetR x.same (k : Int) m).2 := by
      by_cases h0 : x.same = 0
      · rw [meet_zero h0]
        refine ⟨k, rfl, ⟨Nat.le_refl _, .inl rfl, fun h => absurd (hf.trans h0) h⟩, fun s hs => ⟨fun j hj => ?_, fun hn p hp => ?_⟩⟩
        · obtain ⟨q, a, b, c⟩ := (hm s hs).1 j hj
          exact ⟨q, a, by omega, c⟩
        · by_cases e : p = k
          · rw [e, hf, h0]; exact Ne.symm hs
          · exact (hm s hs).2 hn p (by omega)
      · cases hlk : m.lookup x.same with
        | some j =>
          rw [meet_some h0 hlk]
          obtain ⟨q, a, b, c, e⟩ := (hm _ h0).1 j hlk
          refine ⟨q, a, ⟨by omega, .inr ⟨by rw [hf]; exact h0, by rw [hf]; exact c⟩, fun _ => by rw [hf]; exact e⟩, fun s hs => ⟨fun j hj => ?_, fun hn p hp => ?_⟩⟩
          · obtain ⟨q, a, b, c⟩ := (hm s hs).1 j hj
            exact ⟨q, a, by omega, c⟩
          · by_cases e : p = k
            · rw [e, hf]
              rintro rfl
              rw [hlk] at hn; cases hn
            · exact (hm s hs).2 hn p (by omega)
        | none =>
          rw [meet_none h0 hlk]
          have hno := (hm _ h0).2 hlk
          refine ⟨k, rfl, ⟨Nat.le_refl _, .inl rfl, fun _ p hp => by rw [hf]; exact hno p hp⟩, fun s hs => ⟨fun j hj => ?_, fun hn p hp => ?_⟩⟩
          · rw [lookup_snoc] at hj
            cases hq : m.lookup s with
            | some y =>
              rw [hq] at hj
              obtain ⟨q, a, b, c⟩ := (hm s hs).1 j (hq.trans hj)
              exact ⟨q, a, by omega, c⟩
            | none =>
              rw [hq] at hj
              dsimp only at hj
              split at hj
              · rename_i e
                injection hj with hj
                exact ⟨k, hj.symm, by omega, by rw [hf, e], fun p hp => by rw [e]; exact hno p hp⟩
              · cases hj
          · rw [lookup_snoc] at hn
            cases hq : m.lookup s with
            | some y => rw [hq] at hn; cases hn
            | none =>
              rw [hq] at hn
              dsimp only at hn
              split at hn
              · cases hn
              · rename_i e
                by_cases ek : p = k
                · rw [ek, hf]; exact fun h => e h.symm
                · exact (hm s hs).2 hq p (by omega)
    obtain ⟨q, k1, k2, k3⟩ := key
    obtain ⟨l1, l2⟩ := firsts_at d (k + 1) _ (by omega) k3
    rw [drop_at hx, firstsL]
    refine ⟨by rw [List.length_cons, l1], fun i hi => ?_⟩
    cases i with
    | zero => exact ⟨q, by rw [List.getElem?_cons_zero, k1], k2⟩
    | succ i =>
      obtain ⟨q2, a, b⟩ := l2 i (by omega)
      exact ⟨q2, by rw [List.getElem?_cons_succ]; exact a, by rw [show k + (i + 1) = k + 1 + i by omega]; exact b⟩
theorem firsts_self {t : List NodeT} {i q p : Nat} (h : IsFirst t i q) (h2 : IsFirst t q p) : p = q := by
  obtain ⟨a, b, c⟩ := h
  obtain ⟨a2, b2, c2⟩ := h2
  rcases b with rfl | ⟨b1, b3⟩
  · rcases b2 with rfl | ⟨d1, d2⟩
    · rfl
    · rcases Nat.lt_or_ge p q with hlt | hge
      · exact absurd d2 (c d1 p hlt)
      · omega
  · rcases b2 with rfl | ⟨d1, d2⟩
    · rfl
    · rcases Nat.lt_or_ge p q with hlt | hge
      · exact absurd (d2.trans b3) (c b1 p hlt)
      · omega
theorem firsts_all (t : List NodeT) : (firstsL t 0 []).1.length = t.length ∧ ∀ i, i < t.length → ∃ q : Nat, (firstsL t 0 []).1[i]? = some (q : Int) ∧ IsFirst t i q := by
  obtain ⟨l1, l2⟩ := firsts_at (t := t) t.length 0 [] (by omega) (fun s hs => ⟨fun j hj => by (cases hj), fun _ p hp => by omega⟩)
  rw [List.drop_zero] at l1 l2
  exact ⟨l1, fun i hi => by have := l2 i hi; rwa [Nat.zero_add] at this⟩
theorem small_good : ∀ n ∈ smallT, NodeGood n := by
  have hm : MetaGood smallM := ⟨by decide, by decide, by decide, by decide, by decide, by decide, by decide, by decide⟩
  have h1 : NodeGood smallA := ⟨by kernel_rfl, hm, by decide, by decide, .inr (.inl ⟨rfl, rfl, rfl, rfl⟩)⟩
  have h2 : NodeGood smallB := ⟨by kernel_rfl, hm, by decide, by decide, .inl ⟨rfl, rfl, by decide⟩⟩
  have h3 : NodeGood smallC := ⟨by kernel_rfl, hm, by decide, by decide, .inr (.inr ⟨rfl, by decide, by decide, rfl, rfl⟩)⟩
  intro n hn
  have hn : n ∈ [smallA, smallB, smallC] := hn
  simp only [List.mem_cons, List.not_mem_nil, or_false] at hn
  rcases hn with rfl | rfl | rfl
  · exact h1
  · exact h2
  · exact h3
end Go.Proofs.YtdhikkdkjmeiiaaGreatDoor.Abs
