/- Containment of paths is transitive and irreflexive: for all three strings. -/
import Derived.Test.YtbhdfjdopphhdaaPPathInsidex1
import Derived.OpenShut
import Derived.Lib.Strings
import Derived.Lib.SmallJoins
namespace Go.Proofs.Ytbhdfjdopphhdaa.Pure
open Go.RowKit Go.Proofs.Ytbhdfjdopphhdaa.PPathInside Go.Proofs.YtbhdfjdopphhdaaW.PrintWords Go.Proofs.YtbhdfjdopphhdaaW.PrintLast Go.Proofs.YtbhdfjdopphhdaaW.PrintMore

theorem app_list (a b : ByteArray) : (a ++ b).data.toList = a.data.toList ++ b.data.toList := by
  rw [ByteArray.data_append, Array.toList_append]
theorem size_list (a : ByteArray) : a.data.toList.length = a.size := by
  rw [Array.length_toList]; rfl
theorem bytes_ext {a b : ByteArray} (h : a.data.toList = b.data.toList) : a = b := by
  cases a; cases b; simp_all [← Array.toList_inj]

theorem hasPrefix_spec (s p : ByteArray) : strings_HasPrefix.f s p = some (p.data.toList.isPrefixOf s.data.toList) := by
  unfold strings_HasPrefix.f stringslite_HasPrefix.f
  by_cases h : (s.size : Int) ≥ (p.size : Int)
  · rw [if_pos h, if_pos (by omega), if_pos (by omega)]
    simp only [Option.bind_some, Option.some.injEq]
    rw [Lib.extract_toList, Lib.toList_data, Bool.eq_iff_iff, List.isPrefixOf_iff_prefix, beq_iff_eq]
    have hl := size_list s
    have hp := size_list p
    have e : ((p.size : Int)).toNat - 0 = p.data.toList.length := by omega
    rw [List.drop_zero, e]
    constructor
    · intro g; rw [← g]; exact List.take_prefix _ _
    · rintro ⟨t, g⟩; rw [← g]; simp
  · rw [if_neg h]
    simp only [Option.bind_some, Option.some.injEq]
    symm
    rw [Bool.eq_false_iff]
    intro g
    rw [List.isPrefixOf_iff_prefix] at g
    have := g.length_le
    have hl := size_list s
    have hp := size_list p
    omega

theorem in_spec (s d : ByteArray) (hd : d.size ≤ 1000000000000000) : ∃ b, path_In.f s d = some b ∧ (b = true ↔ (d.data.toList = [] ∧ s.data.toList ≠ []) ∨ (d.data.toList ++ [47]) <+: s.data.toList) := by
  unfold path_In.f
  simp only [hasPrefix_spec, Option.bind_some, Lib.toList_data, app_list]
  by_cases h : d.data.toList = []
  · rw [if_pos h]
    by_cases g : s.data.toList = []
    · rw [if_pos g, if_pos (by omega)]
      refine ⟨_, rfl, ?_⟩
      rw [List.isPrefixOf_iff_prefix]
      simp [h, g]
    · rw [if_neg g]
      exact ⟨_, rfl, by simp [h, g]⟩
  · rw [if_neg h, if_pos (by omega)]
    refine ⟨_, rfl, ?_⟩
    rw [List.isPrefixOf_iff_prefix]
    simp [h]

theorem in_at (s d : ByteArray) (hd : d.size ≤ 1000000000000000) : ∃ b, path_In.f s d = some b ∧ (b = true ↔ (d.data.toList = [] ∧ s.data.toList ≠ []) ∨ (d.data.toList ++ [47]) <+: s.data.toList) := in_spec s d hd

theorem PathInside : creelkeep_PathInside.Pure := by
  intro a b c ha hb hc
  refine ⟨1, ?_⟩
  unfold creelkeep_PathInside.f
  have e1 : path_In.f (⟨#[97, 47, 98, 47, 99]⟩ : ByteArray) (⟨#[97]⟩ : ByteArray) = some true := by decide +kernel
  have e2 : path_In.f (⟨#[97, 98]⟩ : ByteArray) (⟨#[97]⟩ : ByteArray) = some false := by decide +kernel
  have e3 : path_In.f a a = some false := by
    obtain ⟨r, hr, h⟩ := in_at a a (by omega)
    rw [hr]
    cases r with
    | false => rfl
    | true =>
      rcases h.1 rfl with ⟨h1, h2⟩ | ⟨t, h1⟩
      · exact absurd h1 h2
      · have := congrArg List.length h1
        simp at this
  rw [e1, e2, e3]
  simp only [Option.bind_some, if_true, Bool.false_eq_true, if_false]
  simp only [creelkeep_PathInside.j0, Bool.false_eq_true, if_false]
  have sa : (⟨#[47]⟩ : ByteArray).size = 1 := rfl
  rw [if_pos (by omega), if_pos (by simp only [ByteArray.size_append]; omega), if_pos (by simp only [ByteArray.size_append]; omega), if_pos (by simp only [ByteArray.size_append]; omega)]
  obtain ⟨r1, hr1, h1⟩ := in_at ((((a ++ (⟨#[47]⟩ : ByteArray)) ++ b) ++ (⟨#[47]⟩ : ByteArray)) ++ c) a (by omega)
  obtain ⟨r2, hr2, h2⟩ := in_at ((((a ++ (⟨#[47]⟩ : ByteArray)) ++ b) ++ (⟨#[47]⟩ : ByteArray)) ++ c) ((a ++ (⟨#[47]⟩ : ByteArray)) ++ b) (by simp only [ByteArray.size_append]; omega)
  obtain ⟨r3, hr3, h3⟩ := in_at ((a ++ (⟨#[47]⟩ : ByteArray)) ++ b) a (by omega)
  obtain ⟨r4, hr4, h4⟩ := in_at a ((((a ++ (⟨#[47]⟩ : ByteArray)) ++ b) ++ (⟨#[47]⟩ : ByteArray)) ++ c) (by simp only [ByteArray.size_append]; omega)
  simp only [app_list] at h1 h2 h3 h4
  have t1 : r1 = true := h1.2 (.inr ⟨b.data.toList ++ [47] ++ c.data.toList, by simp⟩)
  have t2 : r2 = true := h2.2 (.inr ⟨c.data.toList, by simp⟩)
  have t3 : r3 = true := h3.2 (.inr ⟨b.data.toList, by simp⟩)
  have t4 : r4 = false := by
    cases r4 with
    | false => rfl
    | true =>
      rcases h4.1 rfl with ⟨g, _⟩ | ⟨t, g⟩
      · simp at g
      · have := congrArg List.length g
        simp at this
  subst t1 t2 t3 t4
  rw [hr1, hr2, hr3, hr4]
  simp

end Go.Proofs.Ytbhdfjdopphhdaa.Pure
