/- Told anew: what it says. -/
import Derived.Test.YtdhikkdkjmeiiaaGreatDoorRanew
import Derived.Test.YtdhikkdkjmeiiaaGreatDoorRalike
import Derived.Test.YtdhikkdkjmeiiaaGreatDoorRchk
namespace Go.Proofs.YtdhikkdkjmeiiaaGreatDoor.Abs
open Go.RowKit Go.MapKept
set_option linter.unusedVariables false
set_option linter.unusedSimpArgs false
set_option linter.unusedSectionVars false
set_option maxRecDepth 100000
set_option maxHeartbeats 4000000
theorem first_one {t : List NodeT} {i q q' : Nat} (h : IsFirst t i q) (h' : IsFirst t i q') : q = q' := by
  have key : ∀ {q q' : Nat}, IsFirst t i q → IsFirst t i q' → ¬ q < q' := fun {q q'} h h' hlt => by
    obtain ⟨a1, a2, a3⟩ := h
    obtain ⟨b1, b2, b3⟩ := h'
    rcases a2 with rfl | ⟨a4, a5⟩
    · omega
    · exact b3 a4 q hlt a5
  rcases Nat.lt_trichotomy q q' with h1 | h1 | h1
  · exact absurd h1 (key h h')
  · exact h1
  · exact absurd h1 (key h' h)
theorem count_two {L : List Int} {q : Int} {i : Nat} (hi : L[i]? = some q) : countL L q > 1 ↔ ∃ j, j ≠ i ∧ L[j]? = some q := by
  have hil := (List.getElem?_eq_some_iff.1 hi).1
  have hc : L.count q = (L.take i).count q + 1 + (L.drop (i + 1)).count q := by
    conv => lhs; rw [← List.take_append_drop i L, drop_at hi]
    rw [List.count_append, List.count_cons_self]
    omega
  have hcl : countL L q > 1 ↔ 1 < L.count q := by unfold countL; omega
  rw [hcl, hc]
  constructor
  · intro h
    by_cases h1 : q ∈ L.take i
    · obtain ⟨j, hj⟩ := List.getElem?_of_mem h1
      rw [List.getElem?_take] at hj
      split at hj
      · exact ⟨j, by omega, hj⟩
      · cases hj
    · by_cases h2 : q ∈ L.drop (i + 1)
      · obtain ⟨j, hj⟩ := List.getElem?_of_mem h2
        rw [List.getElem?_drop] at hj
        exact ⟨i + 1 + j, by omega, hj⟩
      · rw [List.count_eq_zero_of_not_mem h1, List.count_eq_zero_of_not_mem h2] at h
        omega
  · rintro ⟨j, hne, hj⟩
    rcases Nat.lt_or_ge j i with hlt | hge
    · have : q ∈ L.take i := List.mem_of_getElem? (i := j) (by rw [List.getElem?_take, if_pos hlt]; exact hj)
      have := List.count_pos_iff.2 this
      omega
    · have : q ∈ L.drop (i + 1) := List.mem_of_getElem? (i := j - (i + 1)) (by rw [List.getElem?_drop, show i + 1 + (j - (i + 1)) = j by omega]; exact hj)
      have := List.count_pos_iff.2 this
      omega
/-- The row of the firsts, and what it says. -/
structure FirstsOf (t : List NodeT) (L : List Int) : Prop where
  len : L.length = t.length
  at_ : ∀ i, i < t.length → ∃ q : Nat, L[i]? = some (q : Int) ∧ IsFirst t i q
theorem firstsOf (t : List NodeT) : FirstsOf t (firstsL t 0 []).1 := ⟨(firsts_all t).1, (firsts_all t).2⟩
theorem FirstsOf.one {t : List NodeT} {L L' : List Int} (h : FirstsOf t L) (h' : FirstsOf t L') : L = L' := by
  apply List.ext_getElem?
  intro i
  by_cases hi : i < t.length
  · obtain ⟨q, h1, h2⟩ := h.at_ i hi
    obtain ⟨q', h1', h2'⟩ := h'.at_ i hi
    rw [h1, h1', first_one h2 h2']
  · rw [List.getElem?_eq_none (by rw [h.len]; omega), List.getElem?_eq_none (by rw [h'.len]; omega)]
/-- Two nodes have one first just if they are one, or tell one number. -/
theorem first_same {t : List NodeT} {i j q q' : Nat} (hi : IsFirst t i q) (hj : IsFirst t j q') : q = q' ↔ i = j ∨ (fz t i ≠ 0 ∧ fz t i = fz t j) := by
  obtain ⟨a1, a2, a3⟩ := hi
  obtain ⟨b1, b2, b3⟩ := hj
  constructor
  · rintro rfl
    rcases a2 with rfl | ⟨a4, a5⟩
    · rcases b2 with rfl | ⟨b4, b5⟩
      · exact .inl rfl
      · exact .inr ⟨by rw [b5]; exact b4, b5⟩
    · rcases b2 with rfl | ⟨b4, b5⟩
      · exact .inr ⟨a4, a5.symm⟩
      · exact .inr ⟨a4, a5.symm.trans b5⟩
  · rintro (rfl | ⟨h1, h2⟩)
    · exact first_one ⟨a1, a2, a3⟩ ⟨b1, b2, b3⟩
    · have e1 : fz t q = fz t i := by rcases a2 with rfl | ⟨_, a5⟩; rfl; exact a5
      have e2 : fz t q' = fz t j := by rcases b2 with rfl | ⟨_, b5⟩; rfl; exact b5
      rcases Nat.lt_trichotomy q q' with h | h | h
      · exact absurd (e1.trans h2) (b3 (h2 ▸ h1) q h)
      · exact h
      · exact absurd (e2.trans h2.symm) (a3 h1 q' h)
theorem anew_at {t : List NodeT} {L : List Int} {i : Nat} {x : NodeT} {q : Int} (hx : t[i]? = some x) (hq : L[i]? = some q) : (List.zipWith (anewN L) t L)[i]? = some (anewN L x q) := by
  rw [List.getElem?_zipWith, hx, hq]
section
variable {t : List NodeT} (hT : TreeOk t) {L : List Int} (hL : FirstsOf t L)
include hT hL
/-- What a node tells anew. -/
theorem anew_same {i : Nat} (hi : i < t.length) : ∃ q : Nat, L[i]? = some (q : Int) ∧ IsFirst t i q ∧ (((∃ j, j ≠ i ∧ L[j]? = some (q : Int)) ∧ fz (List.zipWith (anewN L) t L) i = (q : Int) + 1) ∨ (¬ (∃ j, j ≠ i ∧ L[j]? = some (q : Int)) ∧ fz (List.zipWith (anewN L) t L) i = 0)) := by
  obtain ⟨q, h1, h2⟩ := hL.at_ i hi
  obtain ⟨x, hx⟩ := get_lt (l := t) (k := i) hi
  refine ⟨q, h1, h2, ?_⟩
  rw [fz_at (anew_at hx h1)]
  unfold anewN
  by_cases hc : countL L (q : Int) > 1
  · exact .inl ⟨(count_two h1).1 hc, if_pos hc⟩
  · exact .inr ⟨fun h => hc ((count_two h1).2 h), if_neg hc⟩
/-- Two nodes tell one number anew just if they did. -/
theorem anew_link {i j : Nat} (hi : i < t.length) (hj : j < t.length) (hne : i ≠ j) : (fz (List.zipWith (anewN L) t L) i ≠ 0 ∧ fz (List.zipWith (anewN L) t L) i = fz (List.zipWith (anewN L) t L) j) ↔ (fz t i ≠ 0 ∧ fz t i = fz t j) := by
  obtain ⟨q, a1, a2, a3⟩ := anew_same hT hL hi
  obtain ⟨q', b1, b2, b3⟩ := anew_same hT hL hj
  have hs := first_same a2 b2
  constructor
  · rintro ⟨h1, h2⟩
    rcases a3 with ⟨e1, a3⟩ | ⟨_, a3⟩
    · rcases b3 with ⟨e2, b3⟩ | ⟨_, b3⟩
      · exact (hs.1 (by omega)).resolve_left hne
      · omega
    · exact absurd a3 h1
  · intro h
    have e := hs.2 (.inr h)
    subst e
    rcases a3 with ⟨e1, a3⟩ | ⟨e1, _⟩
    · rcases b3 with ⟨e2, b3⟩ | ⟨e2, _⟩
      · rw [a3, b3]
        exact ⟨by omega, rfl⟩
      · exact absurd ⟨i, hne, a1⟩ e2
    · exact absurd ⟨j, fun e => hne e.symm, b1⟩ e1
theorem anew_len2 : (List.zipWith (anewN L) t L).length = t.length := by rw [List.length_zipWith, hL.len, Nat.min_self]
theorem anew_mem {y : NodeT} (hy : y ∈ List.zipWith (anewN L) t L) : ∃ (i : Nat) (x : NodeT) (q : Nat), t[i]? = some x ∧ L[i]? = some (q : Int) ∧ IsFirst t i q ∧ (List.zipWith (anewN L) t L)[i]? = some y ∧ y = anewN L x q := by
  obtain ⟨i, hi⟩ := List.getElem?_of_mem hy
  have hil := (List.getElem?_eq_some_iff.1 hi).1
  rw [anew_len2 hT hL] at hil
  obtain ⟨q, h1, h2⟩ := hL.at_ i hil
  obtain ⟨x, hx⟩ := get_lt (l := t) (k := i) hil
  have := anew_at hx h1
  rw [hi] at this
  injection this with this
  exact ⟨i, x, q, hx, h1, h2, hi, this⟩
theorem anew_tree : TreeOk (List.zipWith (anewN L) t L) := by
  have hlen := anew_len2 hT hL
  refine ⟨fun y hy => ?_, ?_, fun y hy => ?_, fun a ha b hb e e0 => ?_⟩
  · obtain ⟨i, x, q, h1, h2, h3, h4, rfl⟩ := anew_mem hT hL hy
    have hil := (List.getElem?_eq_some_iff.1 h1).1
    have hg := hT.node x (List.mem_of_getElem? h1)
    have hsame : ((∃ j, j ≠ i ∧ L[j]? = some (q : Int)) ∧ (anewN L x q).same = (q : Int) + 1) ∨ (¬ (∃ j, j ≠ i ∧ L[j]? = some (q : Int)) ∧ (anewN L x q).same = 0) := by
      obtain ⟨q', c1, c2, c3⟩ := anew_same hT hL hil
      rw [h2] at c1
      injection c1 with c1
      rw [fz_at h4, ← c1] at c3
      exact c3
    have h0 : 0 ≤ (anewN L x q).same := by rcases hsame with ⟨_, h⟩ | ⟨_, h⟩ <;> omega
    have hnz : (anewN L x q).same ≠ 0 → x.same ≠ 0 := fun h => by
      rcases hsame with ⟨⟨j, hj1, hj2⟩, _⟩ | ⟨_, h5⟩
      · have hjl := (List.getElem?_eq_some_iff.1 hj2).1
        rw [hL.len] at hjl
        obtain ⟨q', c1, c2⟩ := hL.at_ j hjl
        rw [hj2] at c1
        injection c1 with c1
        have := (first_same h3 c2).1 (by omega)
        rcases this with e | ⟨e, _⟩
        · exact absurd e.symm hj1
        · rw [fz_at h1] at e
          exact e
      · exact absurd h5 h
    refine ⟨hg.path, hg.mt, hg.data, hg.target, ?_⟩
    rcases hg.kind with ⟨a, b, c⟩ | ⟨a, b, c, d⟩ | ⟨a, b, c, d, e⟩
    · exact .inl ⟨a, b, h0⟩
    · exact .inr (.inl ⟨a, b, c, Classical.byContradiction fun h => hnz h d⟩)
    · exact .inr (.inr ⟨a, b, c, d, Classical.byContradiction fun h => hnz h e⟩)
  · rw [List.pairwise_iff_getElem]
    intro i j hi hj hij
    rw [hlen] at hi hj
    obtain ⟨q, h1, _⟩ := hL.at_ i hi
    obtain ⟨q', h1', _⟩ := hL.at_ j hj
    obtain ⟨x, hx⟩ := get_lt (l := t) (k := i) hi
    obtain ⟨y, hy⟩ := get_lt (l := t) (k := j) hj
    obtain ⟨_, e1⟩ := List.getElem?_eq_some_iff.1 (anew_at hx h1)
    obtain ⟨_, e2⟩ := List.getElem?_eq_some_iff.1 (anew_at hy h1')
    rw [e1, e2]
    exact less_at (x := x) (y := y) hT hx hy hij
  · obtain ⟨i, x, q, h1, h2, h3, h4, rfl⟩ := anew_mem hT hL hy
    rcases hT.up x (List.mem_of_getElem? h1) with h | ⟨m, hm, h5, h6⟩
    · exact .inl h
    · obtain ⟨j, hj⟩ := List.getElem?_of_mem hm
      obtain ⟨q', c1, _⟩ := hL.at_ j (List.getElem?_eq_some_iff.1 hj).1
      exact .inr ⟨_, List.mem_of_getElem? (anew_at hj c1), h5, h6⟩
  · obtain ⟨i, x, q, h1, h2, h3, h4, rfl⟩ := anew_mem hT hL ha
    obtain ⟨j, y, q', h1', h2', h3', h4', rfl⟩ := anew_mem hT hL hb
    have hi := (List.getElem?_eq_some_iff.1 h1).1
    have hj := (List.getElem?_eq_some_iff.1 h1').1
    by_cases hij : i = j
    · subst hij
      rw [h1] at h1'
      injection h1' with h1'
      subst h1'
      exact ⟨rfl, rfl, rfl⟩
    · have hl := (anew_link hT hL hi hj hij).1 ⟨by rw [fz_at h4]; exact e0, by rw [fz_at h4, fz_at h4']; exact e⟩
      rw [fz_at h1, fz_at h1'] at hl
      exact hT.one x (List.mem_of_getElem? h1) y (List.mem_of_getElem? h1') hl.2 hl.1
theorem anew_firsts : FirstsOf (List.zipWith (anewN L) t L) L := by
  have hlen := anew_len2 hT hL
  refine ⟨by rw [hlen]; exact hL.len, fun i hi => ?_⟩
  rw [hlen] at hi
  obtain ⟨q, a1, a2, a3⟩ := anew_same hT hL hi
  refine ⟨q, a1, a2.1, ?_, fun h p hp e => ?_⟩
  · by_cases hqi : q = i
    · exact .inl hqi
    · have hq : q < t.length := Nat.lt_of_le_of_lt a2.1 hi
      obtain ⟨q2, b1, b2, b3⟩ := anew_same hT hL hq
      have e := firsts_self a2 b2
      subst e
      have := (anew_link hT hL hi hq (fun e => hqi e.symm)).2 (((first_same a2 b2).1 rfl).resolve_left (fun e => hqi e.symm))
      exact .inr ⟨this.1, this.2.symm⟩
  · have hpt : p < t.length := Nat.lt_of_lt_of_le hp (Nat.le_trans a2.1 (Nat.le_of_lt hi))
    obtain ⟨q2, b1, b2, b3⟩ := anew_same hT hL hpt
    have hpi : i ≠ p := fun e => by have := a2.1; omega
    have := (anew_link hT hL hi hpt hpi).1 ⟨h, e.symm⟩
    have e2 := (first_same a2 b2).2 (.inr this)
    have := b2.1
    omega
theorem anew_twice : List.zipWith (anewN L) (List.zipWith (anewN L) t L) L = List.zipWith (anewN L) t L := by
  apply List.ext_getElem?
  intro i
  rw [List.getElem?_zipWith, List.getElem?_zipWith]
  cases t[i]? with
  | none => rfl
  | some x => cases L[i]? <;> rfl
theorem anew_alike : AlikeP (List.zipWith (anewN L) t L) t := by
  have hlen := anew_len2 hT hL
  refine ⟨hlen, fun i hi => ?_⟩
  rw [hlen] at hi
  obtain ⟨x, hx⟩ := get_lt (l := t) (k := i) hi
  obtain ⟨q, h1, h2⟩ := hL.at_ i hi
  have hat := anew_at hx h1
  refine ⟨?_, fun k hk => ?_⟩
  · unfold sameAt
    rw [hat, hx]
    unfold sameF anewN
    simp
  · have hkl := anew_link hT hL hi (by omega : k < t.length) (by omega)
    have hp1 : 0 ≤ fz (List.zipWith (anewN L) t L) i := by
      rw [fz_at hat]
      rcases ((anew_tree hT hL).node _ (List.mem_of_getElem? hat)).kind with ⟨_, _, c⟩ | ⟨_, _, c, _⟩ | ⟨_, _, _, c, _⟩
      · exact c
      · omega
      · omega
    have hp2 : 0 ≤ fz t i := by
      rw [fz_at hx]
      rcases (hT.node _ (List.mem_of_getElem? hx)).kind with ⟨_, _, c⟩ | ⟨_, _, c, _⟩ | ⟨_, _, _, c, _⟩
      · exact c
      · omega
      · omega
    unfold linkB
    rw [Bool.eq_iff_iff]
    simp only [Bool.and_eq_true, decide_eq_true_eq]
    constructor
    · rintro ⟨g1, g2⟩
      have := hkl.1 ⟨by omega, g2⟩
      exact ⟨by omega, this.2⟩
    · rintro ⟨g1, g2⟩
      have := hkl.2 ⟨by omega, g2⟩
      exact ⟨by omega, this.2⟩
end
theorem anewL_is (t : List NodeT) : anewL t = List.zipWith (anewN (firstsL t 0 []).1) t (firstsL t 0 []).1 := rfl
theorem first_le {t : List NodeT} {m : Nat} (hl : t.length ≤ m) : ∀ q ∈ (firstsL t 0 []).1, 0 ≤ q ∧ q ≤ (m : Int) := fun q hq => by
  obtain ⟨i, hi⟩ := List.getElem?_of_mem hq
  have hil := (List.getElem?_eq_some_iff.1 hi).1
  have hL := firstsOf t
  rw [hL.len] at hil
  obtain ⟨q', h1, h2⟩ := hL.at_ i hil
  rw [hi] at h1
  injection h1 with h1
  have := h2.1
  omega
theorem anewL_again {t : List NodeT} (hT : TreeOk t) : anewL (anewL t) = anewL t := by
  have hL := firstsOf t
  have hF := anew_firsts hT hL
  have e := (firstsOf (anewL t)).one hF
  rw [anewL_is (anewL t), e]
  exact anew_twice hT hL
end Go.Proofs.YtdhikkdkjmeiiaaGreatDoor.Abs
