/- Joining the two parts of a split path returns the path, and splitting it again returns the same parts: for every string. -/
import Derived.Test.YtbhdfjdopphhdaaPCutBackx1
import Derived.OpenShut
import Derived.Lib.Strings
import Derived.Lib.SmallJoins
namespace Go.Proofs.Ytbhdfjdopphhdaa.Pure
open Go.RowKit Go.Proofs.Ytbhdfjdopphhdaa.PCutBack Go.Proofs.YtbhdfjdopphhdaaW.PrintWords Go.Proofs.YtbhdfjdopphhdaaW.PrintLast Go.Proofs.YtbhdfjdopphhdaaW.PrintMore
set_option linter.unusedVariables false
set_option linter.unusedSimpArgs false

theorem app_list (a b : ByteArray) : (a ++ b).data.toList = a.data.toList ++ b.data.toList := by
  rw [ByteArray.data_append, Array.toList_append]
theorem size_list (a : ByteArray) : a.data.toList.length = a.size := by
  rw [Array.length_toList]; rfl
theorem bytes_ext {a b : ByteArray} (h : a.data.toList = b.data.toList) : a = b := by
  cases a; cases b; simp_all [← Array.toList_inj]

theorem bt_list (s : ByteArray) (i : Int) (h : i.toNat < s.size) : bt s i = ((s.data.toList.getD i.toNat 0).toNat : Int) := by
  unfold bt
  rw [dif_pos h]
  have hl : i.toNat < s.data.toList.length := by rw [size_list]; exact h
  rw [List.getD_eq_getElem?_getD, List.getElem?_eq_getElem hl]
  rfl
theorem bt_nums (l : List Int) (i : Int) (h : i.toNat < l.length) (hr : 0 ≤ l.getD i.toNat 0 ∧ l.getD i.toNat 0 ≤ 255) : bt (strOfNums l) i = l.getD i.toNat 0 := by
  rw [bt_list _ _ (by rw [strOfNums_size]; exact h), strOfNums_data]
  rw [List.getD_eq_getElem?_getD, List.getElem?_map]
  rw [List.getD_eq_getElem?_getD] at hr ⊢
  rw [List.getElem?_eq_getElem h] at hr ⊢
  simp only [Option.map_some, Option.getD_some] at hr ⊢
  have : (UInt8.ofNat l[i.toNat].toNat).toNat = l[i.toNat].toNat := by
    rw [UInt8.toNat_ofNat']
    omega
  omega

theorem cutGo_ok (s : ByteArray) : ∀ (b pos i : Nat), cutGo s b pos = some i → cutOk s i
  | 0, _, _, h => by simp [cutGo] at h
  | b + 1, pos, i, h => by
    simp only [cutGo] at h
    by_cases c : pos < s.size
    · rw [if_pos c] at h
      by_cases d : cutOk s pos
      · rw [if_pos d] at h
        cases h
        exact d
      · rw [if_neg d] at h
        exact cutGo_ok s b _ i h
    · rw [if_neg c] at h
      cases h
theorem toList_nil (s : ByteArray) : s.toList = [] ↔ s.size = 0 := by
  rw [ByteArray.toList_eq, ← size_list]
  exact List.length_eq_zero_iff.symm
theorem cut_join (s : ByteArray) (i : Nat) (h : bt s i = 47) (hi : i + 1 < s.size) : (s.extract 0 i ++ (⟨#[47]⟩ : ByteArray)) ++ s.extract (i + 1) s.size = s := by
  apply bytes_ext
  rw [app_list, app_list, Lib.extract_data, Lib.extract_data]
  have hl := size_list s
  rw [bt_list s i (by omega)] at h
  have e : ((i : Nat) : Int).toNat = i := by omega
  rw [e, List.getD_eq_getElem?_getD, List.getElem?_eq_getElem (by omega)] at h
  simp only [Option.getD_some] at h
  have h47 : s.data.toList[i]'(by omega) = 47 := by
    rw [← UInt8.toNat_inj]
    have : (47 : UInt8).toNat = 47 := rfl
    omega
  have k : (⟨#[47]⟩ : ByteArray).data.toList = [47] := rfl
  rw [k, List.drop_zero, Nat.sub_zero, List.take_of_length_le (i := s.size - (i + 1)) (by rw [List.length_drop]; omega)]
  have hd : s.data.toList.drop i = 47 :: s.data.toList.drop (i + 1) := by
    rw [List.drop_eq_getElem_cons (by omega), h47]
  rw [List.append_assoc, List.singleton_append, ← hd, List.take_append_drop]
/-- What Two answers. -/
theorem two_cases (s : ByteArray) (hs : s.size ≤ 140737488351232) :
    (∃ e, e ≠ 0 ∧ cut_Two.f s = some ((⟨#[]⟩ : ByteArray), (⟨#[]⟩ : ByteArray), e)) ∨
    (0 < s.size ∧ s.size ≤ 100 ∧ cut_Two.f s = some ((⟨#[]⟩ : ByteArray), s, 0)) ∨
    (∃ i, cutOk s i ∧ cut_Two.f s = some (s.extract 0 i, s.extract (i + 1) s.size, 0)) := by
  unfold cut_Two.f
  by_cases c1 : s.toList = []
  · rw [if_pos c1]; exact .inl ⟨3, by decide, rfl⟩
  · rw [if_neg c1]
    have h0 : 0 < s.size := by
      rcases Nat.eq_zero_or_pos s.size with h | h
      · exact absurd ((toList_nil s).2 h) c1
      · exact h
    by_cases c2 : 0 ≤ Lib.indexByte s.data.toList 0
    · rw [if_pos c2]; exact .inl ⟨3, by decide, rfl⟩
    · rw [if_neg c2]
      by_cases c3 : s.size ≤ 100
      · rw [if_pos c3]; exact .inr (.inl ⟨h0, c3, rfl⟩)
      · rw [if_neg c3, if_pos (by omega)]
        cases hg : cutGo s s.size 0 with
        | some i => exact .inr (.inr ⟨i, cutGo_ok s _ _ i hg, rfl⟩)
        | none => exact .inl ⟨1, by decide, rfl⟩

theorem CutBack : creelkeep_CutBack.Pure := by
  intro s hs
  refine ⟨3, ?_⟩
  unfold creelkeep_CutBack.f
  have e0 : cut_Two.f (⟨#[97, 47, 98]⟩ : ByteArray) = some ((⟨#[]⟩ : ByteArray), (⟨#[97, 47, 98]⟩ : ByteArray), 0) := by decide +kernel
  have n0 : (⟨#[]⟩ : ByteArray).toList = [] := by decide +kernel
  have n1 : (⟨#[97, 47, 98]⟩ : ByteArray).toList = [97, 47, 98] := by decide +kernel
  have z0 : (⟨#[]⟩ : ByteArray).size = 0 := rfl
  rcases two_cases s hs with ⟨e, he, h⟩ | ⟨h0, h1, h⟩ | ⟨i, ok, h⟩
  · rw [h, e0]
    simp only [Option.bind_some, n0, n1, if_true, bne_self_eq_false, creelkeep_CutBack.j0, Bool.false_eq_true, if_false]
    rw [if_neg he]
    rfl
  · have hone : cut_One.f 2 (⟨#[]⟩ : ByteArray) s = some (s, 0) := by
      unfold cut_One.f
      have hd : decide (((⟨#[]⟩ : ByteArray).size : Int) > 155) = false := by decide
      rw [if_neg (by omega), if_neg (by omega), hd]
      simp only [cut_One.j0, Bool.false_eq_true, if_false, n0, if_true]
      rw [h]
      simp only [Option.bind_some, if_true, n0]
    rw [h, e0]
    simp only [Option.bind_some, n0, n1, if_true, bne_self_eq_false, creelkeep_CutBack.j0, Bool.false_eq_true, if_false]
    rw [hone]
    simp only [Option.bind_some, if_true]
    rw [if_pos (by rw [z0]; omega), decide_eq_true (by omega)]
  · obtain ⟨o1, o2, o3, o4, o5⟩ := ok
    have hp : (s.extract 0 i).size = i := by rw [ByteArray.size_extract]; omega
    have hn : (s.extract (i + 1) s.size).size = s.size - (i + 1) := by rw [ByteArray.size_extract]; omega
    have hj := cut_join s i o1 o4
    have hone : cut_One.f 2 (s.extract 0 i) (s.extract (i + 1) s.size) = some (s, 0) := by
      unfold cut_One.f
      have hd : decide (((s.extract 0 i).size : Int) > 155) = false := decide_eq_false (by omega)
      rw [if_neg (by omega), if_neg (by omega), hd]
      simp only [cut_One.j0, Bool.false_eq_true, if_false]
      have sa : (⟨#[47]⟩ : ByteArray).size = 1 := rfl
      rw [if_neg (by rw [toList_nil]; omega), if_pos (by omega), if_pos (by rw [ByteArray.size_append]; omega), hj, h]
      simp only [Option.bind_some, if_true]
    rw [h, e0]
    simp only [Option.bind_some, n0, n1, if_true, bne_self_eq_false, creelkeep_CutBack.j0, Bool.false_eq_true, if_false]
    rw [hone]
    simp only [Option.bind_some, if_true]
    rw [if_pos (by omega), decide_eq_true (by omega)]

end Go.Proofs.Ytbhdfjdopphhdaa.Pure
