/- The law of a tree numbered anew; trees that are alike by whatever numbers. -/
import Derived.Test.YtdhikkdkjmeiiaaGreatDoorRanew2
namespace Go.Proofs.YtdhikkdkjmeiiaaGreatDoor.Abs
open Go.RowKit Go.MapKept
set_option linter.unusedVariables false
set_option linter.unusedSimpArgs false
set_option maxRecDepth 100000
set_option maxHeartbeats 4000000
/-! ### The law of trees that are told anew. -/
theorem anewT_tree {t : List NodeT} (hT : TreeOk t) : TreeOk (anewL t) := anew_tree hT (firstsOf t)
/-! ### Alike by what is told anew: plain facts. -/
theorem first_rel {t : List NodeT} {i q : Nat} : IsFirst t i q ↔ q ≤ i ∧ (q = i ∨ (fz t i ≠ 0 ∧ fz t i = fz t q)) ∧ ∀ p, p < q → ¬ (fz t i ≠ 0 ∧ fz t i = fz t p) := by
  unfold IsFirst
  constructor
  · rintro ⟨h1, h2, h3⟩
    exact ⟨h1, h2.imp (fun h => h) fun h => ⟨h.1, h.2.symm⟩, fun p hp h => h3 h.1 p hp h.2.symm⟩
  · rintro ⟨h1, h2, h3⟩
    exact ⟨h1, h2.imp (fun h => h) fun h => ⟨h.1, h.2.symm⟩, fun h p hp e => h3 p hp ⟨h, e.symm⟩⟩
theorem first_cong {t u : List NodeT} {i q : Nat} (h : ∀ p, p < i → ((fz t i ≠ 0 ∧ fz t i = fz t p) ↔ (fz u i ≠ 0 ∧ fz u i = fz u p))) (hF : IsFirst t i q) : IsFirst u i q := by
  rw [first_rel] at hF ⊢
  obtain ⟨h1, h2, h3⟩ := hF
  refine ⟨h1, ?_, fun p hp hr => h3 p hp ((h p (by omega)).2 hr)⟩
  rcases h2 with h2 | h2
  · exact .inl h2
  · rcases Nat.lt_or_ge q i with h4 | h4
    · exact .inr ((h q h4).1 h2)
    · exact .inl (by omega)
/-- Trees that tell alike which files are one have the same firsts. -/
theorem firsts_cong {t u : List NodeT} (hl : t.length = u.length) (h : ∀ i, i < t.length → ∀ p, p < i → ((fz t i ≠ 0 ∧ fz t i = fz t p) ↔ (fz u i ≠ 0 ∧ fz u i = fz u p))) : (firstsL t 0 []).1 = (firstsL u 0 []).1 := by
  have h1 := firstsOf t
  refine FirstsOf.one (t := u) ⟨h1.len.trans hl, fun i hi => ?_⟩ (firstsOf u)
  obtain ⟨q, h2, h3⟩ := h1.at_ i (by omega)
  exact ⟨q, h2, first_cong (h i (by omega)) h3⟩
theorem same_ge {t : List NodeT} (hT : TreeOk t) {i : Nat} : 0 ≤ fz t i := by
  unfold fz
  cases h : t[i]? with
  | none => exact Int.le_refl _
  | some x =>
    show 0 ≤ x.same
    rcases (hT.node x (List.mem_of_getElem? h)).kind with ⟨_, _, c⟩ | ⟨_, _, _, d⟩ | ⟨_, _, _, _, e⟩ <;> omega
theorem link_iff {t : List NodeT} (hT : TreeOk t) {i k : Nat} : linkB t i k = true ↔ (fz t i ≠ 0 ∧ fz t i = fz t k) := by
  have := same_ge hT (i := i)
  unfold linkB
  rw [Bool.and_eq_true, decide_eq_true_eq, decide_eq_true_eq]
  constructor
  · rintro ⟨h1, h2⟩; exact ⟨by omega, h2⟩
  · rintro ⟨h1, h2⟩; exact ⟨by omega, h2⟩
theorem sameF_iff {a b : NodeT} : sameF a b = true ↔ ({ a with same := 0 } : NodeT) = { b with same := 0 } := by
  rw [← same0, decide_eq_true_eq]
/-- Alike, just if they are the same told anew. -/
theorem alike_anew {a b : List NodeT} (hA : TreeOk a) (hB : TreeOk b) : AlikeP a b ↔ anewL a = anewL b := by
  constructor
  · rintro ⟨h1, h2⟩
    have hf := firsts_cong (t := a) (u := b) h1 fun i hi p hp => by
      rw [← link_iff hA, ← link_iff hB, (h2 i hi).2 p hp]
    rw [anewL_is, anewL_is, ← hf]
    apply List.ext_getElem?
    intro i
    rw [List.getElem?_zipWith, List.getElem?_zipWith]
    by_cases hi : i < a.length
    · obtain ⟨x, hx⟩ := get_lt (l := a) (k := i) hi
      obtain ⟨y, hy⟩ := get_lt (l := b) (k := i) (by omega)
      have hs := (h2 i hi).1
      unfold sameAt at hs
      rw [hx, hy] at hs
      have he := sameF_iff.1 hs
      rw [hx, hy]
      cases (firstsL a 0 []).1[i]? with
      | none => rfl
      | some q =>
        show some (anewN _ x q) = some (anewN _ y q)
        congr 1
        unfold anewN
        have e2 : ∀ (z : NodeT) (s : Int), ({ z with same := s } : NodeT) = { ({ z with same := 0 } : NodeT) with same := s } := fun z s => rfl
        rw [e2 x, e2 y, he]
    · rw [List.getElem?_eq_none (l := a) (by omega), List.getElem?_eq_none (l := b) (by omega)]
  · intro h
    have ha := anew_alike hA (firstsOf a)
    have hb := anew_alike hB (firstsOf b)
    rw [← anewL_is] at ha hb
    rw [← h] at hb
    obtain ⟨a1, a2⟩ := ha
    obtain ⟨b1, b2⟩ := hb
    refine ⟨a1.symm.trans b1, fun i hi => ?_⟩
    obtain ⟨a3, a4⟩ := a2 i (by omega)
    obtain ⟨b3, b4⟩ := b2 i (by omega)
    refine ⟨?_, fun k hk => (a4 k hk).symm.trans (b4 k hk)⟩
    obtain ⟨x, hx⟩ := get_lt (l := anewL a) (k := i) (by omega)
    obtain ⟨y, hy⟩ := get_lt (l := a) (k := i) hi
    obtain ⟨z, hz⟩ := get_lt (l := b) (k := i) (by omega)
    unfold sameAt at a3 b3 ⊢
    rw [hx, hy] at a3
    rw [hx, hz] at b3
    rw [hy, hz]
    exact sameF_iff.2 ((sameF_iff.1 a3).symm.trans (sameF_iff.1 b3))
/-! ### Other numbers -/
def bumpN (p : Int) (x : NodeT) : NodeT := if x.same > 0 then { x with same := x.same + (1 + p) } else x
theorem bump_fz {t : List NodeT} (hT : TreeOk t) (p : Int) (i : Nat) : fz (t.map (bumpN p)) i = if fz t i > 0 then fz t i + (1 + p) else 0 := by
  have h0 := same_ge hT (i := i)
  unfold fz at h0 ⊢
  rw [List.getElem?_map]
  cases h : t[i]? with
  | none => rfl
  | some x =>
    rw [h] at h0
    have h0 : 0 ≤ x.same := h0
    show (bumpN p x).same = if x.same > 0 then x.same + (1 + p) else 0
    unfold bumpN
    by_cases hs : x.same > 0
    · rw [if_pos hs, if_pos hs]
    · rw [if_neg hs, if_neg hs]; omega
theorem bump_path (p : Int) (x : NodeT) : (bumpN p x).path = x.path ∧ (bumpN p x).kind = x.kind ∧ (bumpN p x).mt = x.mt ∧ (bumpN p x).data = x.data ∧ (bumpN p x).target = x.target := by
  unfold bumpN
  split <;> exact ⟨rfl, rfl, rfl, rfl, rfl⟩
theorem bump_tree {t : List NodeT} (hT : TreeOk t) {p : Int} (hp : 0 ≤ p) : TreeOk (t.map (bumpN p)) := by
  refine ⟨fun n hn => ?_, ?_, fun n hn => ?_, fun a ha b hb e e0 => ?_⟩
  · obtain ⟨x, hx, rfl⟩ := List.mem_map.1 hn
    obtain ⟨e1, e2, e3, e4, e5⟩ := bump_path p x
    have hg := hT.node x hx
    unfold bumpN
    split
    · rename_i hs
      refine ⟨hg.path, hg.mt, hg.data, hg.target, ?_⟩
      rcases hg.kind with ⟨a, b, c⟩ | ⟨a, b, c, d⟩ | ⟨a, b, c, d, e⟩
      · exact .inl ⟨a, b, by show 0 ≤ x.same + (1 + p); omega⟩
      · omega
      · omega
    · exact hg
  · rw [List.pairwise_map]
    refine hT.sorted.imp fun {a b} h => ?_
    rw [(bump_path p a).1, (bump_path p b).1]
    exact h
  · obtain ⟨x, hx, rfl⟩ := List.mem_map.1 hn
    rw [(bump_path p x).1]
    rcases hT.up x hx with h | ⟨m, hm, h1, h2⟩
    · exact .inl h
    · exact .inr ⟨_, List.mem_map_of_mem hm, (bump_path p m).1.trans h1, (bump_path p m).2.1.trans h2⟩
  · obtain ⟨x, hx, rfl⟩ := List.mem_map.1 ha
    obtain ⟨y, hy, rfl⟩ := List.mem_map.1 hb
    obtain ⟨x1, x2, x3, x4, _⟩ := bump_path p x
    obtain ⟨y1, y2, y3, y4, _⟩ := bump_path p y
    rw [x2, x3, x4, y2, y3, y4]
    have hx0 : 0 ≤ x.same := by rcases (hT.node x hx).kind with ⟨_, _, c⟩ | ⟨_, _, _, d⟩ | ⟨_, _, _, _, e⟩ <;> omega
    have hy0 : 0 ≤ y.same := by rcases (hT.node y hy).kind with ⟨_, _, c⟩ | ⟨_, _, _, d⟩ | ⟨_, _, _, _, e⟩ <;> omega
    have hxy : x.same = y.same ∧ x.same ≠ 0 := by
      unfold bumpN at e e0
      by_cases h1 : x.same > 0
      · rw [if_pos h1] at e e0
        by_cases h2 : y.same > 0
        · rw [if_pos h2] at e
          have e : x.same + (1 + p) = y.same + (1 + p) := e
          omega
        · rw [if_neg h2] at e
          have e : x.same + (1 + p) = y.same := e
          omega
      · rw [if_neg h1] at e0
        omega
    exact hT.one x hx y hy hxy.1 hxy.2
theorem bump_anew {t : List NodeT} (hT : TreeOk t) {p : Int} (hp : 0 ≤ p) : anewL (t.map (bumpN p)) = anewL t := by
  refine ((alike_anew (bump_tree hT hp) hT).1 ⟨List.length_map _, fun i hi => ?_⟩)
  rw [List.length_map] at hi
  obtain ⟨x, hx⟩ := get_lt (l := t) (k := i) hi
  refine ⟨?_, fun k hk => ?_⟩
  · unfold sameAt
    rw [List.getElem?_map, hx]
    show sameF (bumpN p x) x = true
    rw [sameF_iff]
    unfold bumpN
    split <;> rfl
  · have h1 := same_ge hT (i := i)
    have h2 := same_ge hT (i := k)
    unfold linkB
    rw [bump_fz hT, bump_fz hT, Bool.eq_iff_iff]
    simp only [Bool.and_eq_true, decide_eq_true_eq]
    by_cases h3 : fz t i > 0
    · rw [if_pos h3]
      by_cases h4 : fz t k > 0
      · rw [if_pos h4]; omega
      · rw [if_neg h4]; omega
    · rw [if_neg h3]
      omega
end Go.Proofs.YtdhikkdkjmeiiaaGreatDoor.Abs
