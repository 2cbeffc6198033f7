/- What is short is not cut, what is long is cut as early as may be: for all ints. -/
import Derived.Test.YtpkidejgilmlpaaPCutShortx1
import Derived.OpenShut
import Derived.Laws.RangeString
import Derived.Lib.Strings
import Derived.Lib.SmallJoins
import Derived.Lib.TrimByte
namespace Go.Proofs.Ytpkidejgilmlpaa.Pure
open Go.RowKit Go.Proofs.Ytpkidejgilmlpaa.PCutShort Go.Proofs.YtpkidejgilmlpaaW.PrintWords Go.Proofs.YtpkidejgilmlpaaW.PrintLast Go.Proofs.YtpkidejgilmlpaaW.PrintMore
set_option linter.unusedVariables false
set_option linter.unusedSimpArgs false

theorem w64 {n : Int} (h1 : -9223372036854775808 ≤ n) (h2 : n ≤ 9223372036854775807) : wrap64 n = n := by
  unfold wrap64
  omega

theorem picked_spec {a m : Int} (hw : (Lit.int .i64 a).wf = true) (hm : 0 < m) : ∃ t, creelkeep_picked.f a m = some t ∧ 0 ≤ t ∧ t < m := by
  obtain ⟨h1, h2⟩ := bounds_i64 hw
  unfold creelkeep_picked.f
  have e : ¬ m = 0 := by omega
  by_cases h : a < 0
  · rw [if_pos h, if_neg e, w64 (n := a + 1) (by omega) (by omega), w64 (by omega) (by omega)]
    exact ⟨_, rfl, Int.tmod_nonneg _ (by omega), Int.tmod_lt_of_pos _ hm⟩
  · rw [if_neg h, if_neg e]
    exact ⟨_, rfl, Int.tmod_nonneg _ (by omega), Int.tmod_lt_of_pos _ hm⟩

theorem app_list (a b : ByteArray) : (a ++ b).data.toList = a.data.toList ++ b.data.toList := by
  rw [ByteArray.data_append, Array.toList_append]
theorem size_list (a : ByteArray) : a.data.toList.length = a.size := by
  rw [Array.length_toList]; rfl
theorem bytes_ext {a b : ByteArray} (h : a.data.toList = b.data.toList) : a = b := by
  cases a; cases b; simp_all [← Array.toList_inj]

theorem bt_list (s : ByteArray) (i : Int) (h : i.toNat < s.size) : bt s i = ((s.data.toList.getD i.toNat 0).toNat : Int) := by
  unfold bt
  rw [dif_pos h]
  have hl : i.toNat < s.data.toList.length := by rw [size_list]; exact h
  rw [List.getD_eq_getElem?_getD, List.getElem?_eq_getElem hl]
  rfl
theorem bt_nums (l : List Int) (i : Int) (h : i.toNat < l.length) (hr : 0 ≤ l.getD i.toNat 0 ∧ l.getD i.toNat 0 ≤ 255) : bt (strOfNums l) i = l.getD i.toNat 0 := by
  rw [bt_list _ _ (by rw [strOfNums_size]; exact h), strOfNums_data]
  rw [List.getD_eq_getElem?_getD, List.getElem?_map]
  rw [List.getD_eq_getElem?_getD] at hr ⊢
  rw [List.getElem?_eq_getElem h] at hr ⊢
  simp only [Option.map_some, Option.getD_some] at hr ⊢
  have : (UInt8.ofNat l[i.toNat].toNat).toNat = l[i.toNat].toNat := by
    rw [UInt8.toNat_ofNat']
    omega
  omega

theorem cutGo_ok (s : ByteArray) : ∀ (b pos i : Nat), cutGo s b pos = some i → cutOk s i
  | 0, _, _, h => by simp [cutGo] at h
  | b + 1, pos, i, h => by
    simp only [cutGo] at h
    by_cases c : pos < s.size
    · rw [if_pos c] at h
      by_cases d : cutOk s pos
      · rw [if_pos d] at h
        cases h
        exact d
      · rw [if_neg d] at h
        exact cutGo_ok s b _ i h
    · rw [if_neg c] at h
      cases h
theorem toList_nil (s : ByteArray) : s.toList = [] ↔ s.size = 0 := by
  rw [ByteArray.toList_eq, ← size_list]
  exact List.length_eq_zero_iff.symm
theorem cut_join (s : ByteArray) (i : Nat) (h : bt s i = 47) (hi : i + 1 < s.size) : (s.extract 0 i ++ (⟨#[47]⟩ : ByteArray)) ++ s.extract (i + 1) s.size = s := by
  apply bytes_ext
  rw [app_list, app_list, Lib.extract_data, Lib.extract_data]
  have hl := size_list s
  rw [bt_list s i (by omega)] at h
  have e : ((i : Nat) : Int).toNat = i := by omega
  rw [e, List.getD_eq_getElem?_getD, List.getElem?_eq_getElem (by omega)] at h
  simp only [Option.getD_some] at h
  have h47 : s.data.toList[i]'(by omega) = 47 := by
    rw [← UInt8.toNat_inj]
    have : (47 : UInt8).toNat = 47 := rfl
    omega
  have k : (⟨#[47]⟩ : ByteArray).data.toList = [47] := rfl
  rw [k, List.drop_zero, Nat.sub_zero, List.take_of_length_le (i := s.size - (i + 1)) (by rw [List.length_drop]; omega)]
  have hd : s.data.toList.drop i = 47 :: s.data.toList.drop (i + 1) := by
    rw [List.drop_eq_getElem_cons (by omega), h47]
  rw [List.append_assoc, List.singleton_append, ← hd, List.take_append_drop]
/-- What Two answers. -/
theorem two_cases (s : ByteArray) (hs : s.size ≤ 140737488351232) :
    (∃ e, e ≠ 0 ∧ cut_Two.f s = some ((⟨#[]⟩ : ByteArray), (⟨#[]⟩ : ByteArray), e)) ∨
    (0 < s.size ∧ s.size ≤ 100 ∧ cut_Two.f s = some ((⟨#[]⟩ : ByteArray), s, 0)) ∨
    (∃ i, cutOk s i ∧ cut_Two.f s = some (s.extract 0 i, s.extract (i + 1) s.size, 0)) := by
  unfold cut_Two.f
  by_cases c1 : s.toList = []
  · rw [if_pos c1]; exact .inl ⟨3, by decide, rfl⟩
  · rw [if_neg c1]
    have h0 : 0 < s.size := by
      rcases Nat.eq_zero_or_pos s.size with h | h
      · exact absurd ((toList_nil s).2 h) c1
      · exact h
    by_cases c2 : 0 ≤ Lib.indexByte s.data.toList 0
    · rw [if_pos c2]; exact .inl ⟨3, by decide, rfl⟩
    · rw [if_neg c2]
      by_cases c3 : s.size ≤ 100
      · rw [if_pos c3]; exact .inr (.inl ⟨h0, c3, rfl⟩)
      · rw [if_neg c3, if_pos (by omega)]
        cases hg : cutGo s s.size 0 with
        | some i => exact .inr (.inr ⟨i, cutGo_ok s _ _ i hg, rfl⟩)
        | none => exact .inl ⟨1, by decide, rfl⟩

theorem idx_none : ∀ (t : List UInt8) (c : UInt8), c ∉ t → Lib.indexByte t c = -1
  | [], _, _ => rfl
  | b :: t, c, h => by
    have hb : (b == c) = false := by rw [beq_eq_false_iff_ne]; intro e; exact h (by simp [e])
    have ih := idx_none t c (fun hm => h (by simp [hm]))
    simp [Lib.indexByte, hb, ih]
theorem idx_at : ∀ (t r : List UInt8) (c : UInt8), c ∉ t → Lib.indexByte (t ++ c :: r) c = t.length
  | [], r, c, _ => by simp [Lib.indexByte]
  | b :: t, r, c, h => by
    have hb : (b == c) = false := by rw [beq_eq_false_iff_ne]; intro e; exact h (by simp [e])
    have ih := idx_at t r c (fun hm => h (by simp [hm]))
    have hn : ((t.length : Int) == -1) = false := by rw [beq_eq_false_iff_ne]; omega
    simp [Lib.indexByte, hb, ih, hn]
theorem idx_split (l : List UInt8) (c : UInt8) : ∃ t r, l = t ++ r ∧ c ∉ t ∧ (r = [] ∨ ∃ r', r = c :: r') := by
  induction l with
  | nil => exact ⟨[], [], rfl, by simp, .inl rfl⟩
  | cons b l ih =>
    by_cases e : b = c
    · exact ⟨[], b :: l, rfl, by simp, .inr ⟨l, by rw [e]⟩⟩
    · obtain ⟨t, r, h1, h2, h3⟩ := ih
      exact ⟨b :: t, r, by rw [h1]; rfl, by simp [Ne.symm e, h2], h3⟩
theorem repeat_one (c : UInt8) : ∀ n, Lib.repeatL [c] n = List.replicate n c
  | 0 => rfl
  | n + 1 => by simp [Lib.repeatL, repeat_one c n, List.replicate_succ]
theorem mk_list (l : List UInt8) : (⟨l.toArray⟩ : ByteArray).data.toList = l := by simp
theorem mk_size (l : List UInt8) : (⟨l.toArray⟩ : ByteArray).size = l.length := by rw [← size_list, mk_list]
theorem is_mk (s : ByteArray) : s = ⟨s.data.toList.toArray⟩ := by cases s; simp
theorem mk_inj {a b : List UInt8} : (⟨a.toArray⟩ : ByteArray) = ⟨b.toArray⟩ ↔ a = b := ⟨fun h => by have := congrArg (fun x : ByteArray => x.data.toList) h; simpa using this, fun h => by rw [h]⟩
theorem dw_nil (p : UInt8 → Bool) : ∀ l : List UInt8, l.dropWhile p = [] ↔ ∀ x ∈ l, p x = true
  | [] => by simp
  | a :: l => by
    by_cases h : p a = true
    · rw [List.dropWhile_cons_of_pos h, dw_nil p l]; simp [h]
    · rw [List.dropWhile_cons_of_neg h]; simp [h]
theorem trim_zero (r : List UInt8) (c : UInt8) : Lib.trimB r c = [] ↔ ∀ x ∈ r, x = c := by
  unfold Lib.trimB Lib.trimLeftB Lib.trimRightB
  constructor
  · intro h x hx
    have h1 : ∀ y ∈ (r.reverse.dropWhile (· == c)).reverse, (y == c) = true := by
      rw [dw_nil] at h
      exact h
    have h2 : r.reverse.dropWhile (· == c) = [] := by
      cases hd : r.reverse.dropWhile (· == c) with
      | nil => rfl
      | cons a l =>
        have ha := h1 a (by rw [hd]; simp)
        have := List.head?_dropWhile_not (· == c) r.reverse
        rw [hd] at this
        simp [ha] at this
    rw [dw_nil] at h2
    exact eq_of_beq (h2 x (by simpa using hx))
  · intro h
    have h2 : r.reverse.dropWhile (· == c) = [] := by
      rw [dw_nil]
      intro x hx
      exact beq_iff_eq.2 (h x (by simpa using hx))
    rw [h2]
    rfl
theorem toList_mk (l : List UInt8) : (⟨l.toArray⟩ : ByteArray).toList = l := by rw [ByteArray.toList_eq, mk_list]

theorem repeat_spec (c : UInt8) (n : Int) (h0 : 0 ≤ n) (h1 : n ≤ 1000000) : strings_Repeat.f (⟨#[c]⟩ : ByteArray) n = some ⟨(List.replicate n.toNat c).toArray⟩ := by
  unfold strings_Repeat.f
  have sz : (⟨#[c]⟩ : ByteArray).size = 1 := rfl
  rw [if_pos h0, if_pos (by omega), if_pos (by rw [sz]; omega)]
  have : (⟨#[c]⟩ : ByteArray).data.toList = [c] := rfl
  rw [this, repeat_one]

theorem ext_take (s : ByteArray) (n : Nat) : (s.extract 0 n).data.toList = s.data.toList.take n := by simp [ByteArray.data_extract]
theorem ext_drop (s : ByteArray) (n : Nat) : (s.extract n s.size).data.toList = s.data.toList.drop n := by
  rw [ByteArray.data_extract, Array.toList_extract]
  have : s.size = s.data.toList.length := (size_list s).symm
  rw [this, List.extract_eq_take_drop]
  exact List.take_of_length_le (by simp)
theorem mk_app (a b : List UInt8) : (⟨a.toArray⟩ : ByteArray) ++ ⟨b.toArray⟩ = ⟨(a ++ b).toArray⟩ := by
  apply bytes_ext; rw [app_list, mk_list, mk_list, mk_list]

def abc (a b c : Nat) : List UInt8 := List.replicate a 120 ++ (47 :: (List.replicate b 121 ++ (47 :: List.replicate c 122)))
theorem abc_len (a b c : Nat) : (abc a b c).length = a + 1 + b + 1 + c := by
  unfold abc
  simp only [List.length_append, List.length_cons, List.length_replicate]; omega
theorem abc_at (a b c j : Nat) (h : j < a + 1 + b + 1 + c) : (abc a b c).getD j 0 = if j < a then 120 else if j = a then 47 else if j < a + 1 + b then 121 else if j = a + 1 + b then 47 else 122 := by
  unfold abc
  rw [List.getD_eq_getElem?_getD]
  by_cases h1 : j < a
  · rw [if_pos h1, List.getElem?_append_left (by simpa using h1), List.getElem?_replicate, if_pos h1]; rfl
  · rw [if_neg h1, List.getElem?_append_right (by simpa using h1), List.length_replicate]
    by_cases h2 : j = a
    · rw [if_pos h2, h2, Nat.sub_self]; rfl
    · rw [if_neg h2]
      obtain ⟨m, hm⟩ : ∃ m, j - a = m + 1 := ⟨j - a - 1, by omega⟩
      rw [hm, List.getElem?_cons_succ]
      by_cases h3 : j < a + 1 + b
      · rw [if_pos h3, List.getElem?_append_left (by rw [List.length_replicate]; omega), List.getElem?_replicate, if_pos (by omega)]; rfl
      · rw [if_neg h3, List.getElem?_append_right (by rw [List.length_replicate]; omega), List.length_replicate]
        by_cases h4 : j = a + 1 + b
        · rw [if_pos h4, show m - b = 0 by omega]; rfl
        · rw [if_neg h4]
          obtain ⟨q, hq⟩ : ∃ q, m - b = q + 1 := ⟨m - b - 1, by omega⟩
          rw [hq, List.getElem?_cons_succ, List.getElem?_replicate, if_pos (by omega)]; rfl
theorem abc_bt (a b c j : Nat) (h : j < a + 1 + b + 1 + c) : bt ⟨(abc a b c).toArray⟩ j = if j = a ∨ j = a + 1 + b then 47 else if j < a then 120 else if j < a + 1 + b then 121 else 122 := by
  rw [bt_list _ _ (by rw [mk_size, abc_len]; omega), mk_list, Int.toNat_natCast, abc_at a b c j h]
  by_cases h1 : j < a
  · rw [if_pos h1, if_neg (by omega), if_pos h1]; rfl
  · rw [if_neg h1]
    by_cases h2 : j = a
    · rw [if_pos h2, if_pos (.inl h2)]; rfl
    · rw [if_neg h2]
      by_cases h3 : j < a + 1 + b
      · rw [if_pos h3, if_neg (by omega), if_neg h1, if_pos h3]; rfl
      · rw [if_neg h3]
        by_cases h4 : j = a + 1 + b
        · rw [if_pos h4, if_pos (.inr h4)]; rfl
        · rw [if_neg h4, if_neg (by omega), if_neg h1, if_neg h3]; rfl
theorem abc_47 (a b c j : Nat) (h : j < a + 1 + b + 1 + c) : bt ⟨(abc a b c).toArray⟩ j = 47 ↔ (j = a ∨ j = a + 1 + b) := by
  rw [abc_bt a b c j h]
  by_cases h1 : j = a ∨ j = a + 1 + b
  · rw [if_pos h1]; simp [h1]
  · rw [if_neg h1]
    constructor
    · intro e; split at e <;> first | omega | (split at e <;> omega)
    · intro e; exact absurd e h1
theorem abc_step (a b c j : Nat) (h : j < a + 1 + b + 1 + c) : (Utf8.decode ⟨(abc a b c).toArray⟩ j).2 = 1 := by
  have hs : j < (⟨(abc a b c).toArray⟩ : ByteArray).size := by rw [mk_size, abc_len]; exact h
  have hb := abc_bt a b c j h
  unfold bt at hb
  rw [Int.toNat_natCast, dif_pos hs] at hb
  rw [decode_ascii _ j hs]
  have : (((⟨(abc a b c).toArray⟩ : ByteArray)[j]'hs).toNat : Int) < 128 := by rw [hb]; split <;> first | omega | (split <;> first | omega | (split <;> omega))
  omega
theorem go_some (a b c i : Nat) (ok : cutOk ⟨(abc a b c).toArray⟩ i) (hn : ∀ j, j < i → ¬ cutOk ⟨(abc a b c).toArray⟩ j) :
    ∀ (f pos : Nat), pos ≤ i → i < pos + f → cutGo ⟨(abc a b c).toArray⟩ f pos = some i
  | 0, pos, h1, h2 => absurd h2 (by omega)
  | f + 1, pos, h1, h2 => by
    have hi : i + 1 < a + 1 + b + 1 + c := by have := ok.2.2.2.1; rw [mk_size, abc_len] at this; exact this
    rw [cutGo, if_pos (by rw [mk_size, abc_len]; omega)]
    by_cases e : pos = i
    · rw [e, if_pos ok]
    · rw [if_neg (hn pos (by omega)), abc_step a b c pos (by omega)]
      exact go_some a b c i ok hn f (pos + 1) (by omega) (by omega)
theorem go_none (a b c : Nat) (hn : ∀ j, ¬ cutOk ⟨(abc a b c).toArray⟩ j) : ∀ (f pos : Nat), cutGo ⟨(abc a b c).toArray⟩ f pos = none
  | 0, _ => rfl
  | f + 1, pos => by
    rw [cutGo]
    split
    · rw [if_neg (hn pos)]; exact go_none a b c hn f _
    · rfl
theorem abc_zero (a b c : Nat) : (0 : UInt8) ∉ abc a b c := by
  unfold abc
  simp [List.mem_append, List.mem_replicate]
theorem CutShort : creelkeep_CutShort.Pure := by
  intro a0 a1 a2 w0 w1 w2
  obtain ⟨a', ha, ha0, ha1⟩ := picked_spec (m := 160) w0 (by decide)
  obtain ⟨b', hb, hb0, hb1⟩ := picked_spec (m := 100) w1 (by decide)
  obtain ⟨c', hc, hc0, hc1⟩ := picked_spec (m := 100) w2 (by decide)
  refine ⟨1, ?_⟩
  unfold creelkeep_CutShort.f
  rw [ha, Option.bind_some, hb, hc, w64 (by omega) (by omega)]
  rw [repeat_spec 120 _ (by omega) (by omega), Option.bind_some, Option.bind_some, w64 (by omega) (by omega), repeat_spec 121 _ (by omega) (by omega), Option.bind_some, Option.bind_some, w64 (by omega) (by omega), repeat_spec 122 _ (by omega) (by omega), Option.bind_some]
  obtain ⟨a, hae⟩ : ∃ a, (1 + a').toNat = a := ⟨_, rfl⟩
  obtain ⟨b, hbe⟩ : ∃ b, (1 + b').toNat = b := ⟨_, rfl⟩
  obtain ⟨c, hce⟩ : ∃ c, (1 + c').toNat = c := ⟨_, rfl⟩
  rw [hae, hbe, hce]
  have hA : 1 ≤ a ∧ a ≤ 160 := by omega
  have hB : 1 ≤ b ∧ b ≤ 100 := by omega
  have hC : 1 ≤ c ∧ c ≤ 100 := by omega
  clear hae hbe hce
  have e47 : (⟨#[47]⟩ : ByteArray) = ⟨[47].toArray⟩ := rfl
  rw [e47]
  simp only [mk_app, mk_size, List.length_append, List.length_replicate, List.length_singleton]
  have hs : List.replicate a (120 : UInt8) ++ [47] ++ List.replicate b 121 ++ [47] ++ List.replicate c 122 = abc a b c := by simp [abc]
  rw [hs, if_pos (by omega), if_pos (by omega), if_pos (by omega), if_pos (by omega)]
  have hnn : (abc a b c) ≠ [] := by unfold abc; simp
  have hix : ¬ 0 ≤ Lib.indexByte (⟨(abc a b c).toArray⟩ : ByteArray).data.toList 0 := by rw [mk_list, idx_none _ _ (abc_zero a b c)]; decide
  have hstart : cut_Two.f ⟨(abc a b c).toArray⟩ = if a + 1 + b + 1 + c ≤ 100 then some ((⟨#[]⟩ : ByteArray), (⟨(abc a b c).toArray⟩ : ByteArray), (0 : Int)) else (match cutGo ⟨(abc a b c).toArray⟩ (a + 1 + b + 1 + c) 0 with
    | some i => some ((⟨(abc a b c).toArray⟩ : ByteArray).extract 0 i, (⟨(abc a b c).toArray⟩ : ByteArray).extract (i + 1) (⟨(abc a b c).toArray⟩ : ByteArray).size, (0 : Int))
    | none => some ((⟨#[]⟩ : ByteArray), (⟨#[]⟩ : ByteArray), (1 : Int))) := by
    unfold cut_Two.f
    rw [toList_mk, if_neg hnn, if_neg hix, mk_size, abc_len, if_pos (show a + 1 + b + 1 + c ≤ 9223372036854775807 by omega)]
    try rfl
  rw [hstart]
  have n0 : (⟨#[]⟩ : ByteArray).toList = [] := by decide +kernel
  by_cases c1 : a + 1 + b + 1 + c ≤ 100
  · rw [if_pos c1, Option.bind_some, if_pos (by omega)]
    dsimp only
    rw [if_pos rfl, if_pos n0]
    simp
  · rw [if_neg c1]
    have ok_iff : ∀ j, cutOk ⟨(abc a b c).toArray⟩ j ↔ ((j = a ∧ a ≤ 155 ∧ b + c < 100) ∨ (j = a + 1 + b ∧ a + b < 155)) := by
      intro j
      unfold cutOk
      rw [mk_size, abc_len]
      constructor
      · rintro ⟨h1, h2, h3, h4, h5⟩
        rw [abc_47 a b c j (by omega)] at h1
        rcases h1 with h1 | h1
        · left; omega
        · right; omega
      · rintro (⟨h1, h2, h3⟩ | ⟨h1, h2⟩)
        · exact ⟨(abc_47 a b c j (by omega)).2 (.inl h1), by omega, by omega, by omega, by omega⟩
        · exact ⟨(abc_47 a b c j (by omega)).2 (.inr h1), by omega, by omega, by omega, by omega⟩
    have tk : ∀ n, ((⟨(abc a b c).toArray⟩ : ByteArray).extract 0 n).toList = (abc a b c).take n := by intro n; rw [ByteArray.toList_eq, ext_take, mk_list]
    have dk : ∀ n, ((⟨(abc a b c).toArray⟩ : ByteArray).extract n (⟨(abc a b c).toArray⟩ : ByteArray).size).toList = (abc a b c).drop n := by intro n; rw [ByteArray.toList_eq, ext_drop, mk_list]
    by_cases c2 : a ≤ 155 ∧ b + c < 100
    · have hg : cutGo ⟨(abc a b c).toArray⟩ (a + 1 + b + 1 + c) 0 = some a :=
        go_some a b c a ((ok_iff a).2 (.inl ⟨rfl, c2⟩)) (fun j hj h => by rcases (ok_iff j).1 h with h | h <;> omega) _ 0 (by omega) (by omega)
      rw [hg]
      dsimp only
      rw [Option.bind_some, if_neg (by omega), w64 (by omega) (by omega), if_pos (by omega), creelkeep_CutShort.j0, if_pos (decide_eq_true (by omega))]
      dsimp only
      rw [if_pos rfl, tk, toList_mk, if_pos (by unfold abc; simp), mk_app, mk_size, if_pos (by simp; omega), mk_size, mk_size, if_pos (by simp; omega), mk_app, dk, toList_mk]
      unfold abc
      simp [List.drop_append]
    · have hj : ∀ (x : Bool), x = decide ((a : Int) ≤ 155) ∨ x = false → True := fun _ _ => trivial
      have hbr : ∀ (P N : ByteArray) (E : Int), creelkeep_CutShort.j0 1 ⟨(List.replicate a (120 : UInt8)).toArray⟩ ⟨(List.replicate b (121 : UInt8)).toArray⟩ ⟨(List.replicate c (122 : UInt8)).toArray⟩ P N E false = some true →
          (if wrap64 ((b : Int) + (c : Int)) < 100 then creelkeep_CutShort.j0 1 ⟨(List.replicate a (120 : UInt8)).toArray⟩ ⟨(List.replicate b (121 : UInt8)).toArray⟩ ⟨(List.replicate c (122 : UInt8)).toArray⟩ P N E (decide ((a : Int) ≤ 155)) else creelkeep_CutShort.j0 1 ⟨(List.replicate a (120 : UInt8)).toArray⟩ ⟨(List.replicate b (121 : UInt8)).toArray⟩ ⟨(List.replicate c (122 : UInt8)).toArray⟩ P N E false) = some true := by
        intro P N E h
        rw [w64 (by omega) (by omega)]
        by_cases g : (b : Int) + c < 100
        · rw [if_pos g, decide_eq_false (by omega)]; exact h
        · rw [if_neg g]; exact h
      by_cases c3 : a + b < 155
      · have hg : cutGo ⟨(abc a b c).toArray⟩ (a + 1 + b + 1 + c) 0 = some (a + 1 + b) :=
          go_some a b c (a + 1 + b) ((ok_iff _).2 (.inr ⟨rfl, c3⟩)) (fun j hj h => by rcases (ok_iff j).1 h with h | h <;> omega) _ 0 (by omega) (by omega)
        rw [hg]
        dsimp only
        rw [Option.bind_some, if_neg (by omega)]
        dsimp only
        apply hbr
        rw [creelkeep_CutShort.j0, if_neg (by simp), mk_size, mk_size, mk_size, List.length_replicate, List.length_replicate, List.length_replicate, w64 (by omega) (by omega), if_pos (by omega), w64 (by omega) (by omega), if_pos (by omega), if_pos rfl, if_pos (by omega), mk_app, mk_size, if_pos (by simp; omega), mk_app, tk, dk, toList_mk, toList_mk]
        have h1 : abc a b c = (List.replicate a 120 ++ [47] ++ List.replicate b 121) ++ (47 :: List.replicate c 122) := by simp [abc]
        have h2 : abc a b c = (List.replicate a 120 ++ [47] ++ List.replicate b 121 ++ [47]) ++ List.replicate c 122 := by simp [abc]
        have t1 : (abc a b c).take (a + 1 + b) = List.replicate a 120 ++ [47] ++ List.replicate b 121 := by rw [h1]; exact List.take_left' (by simp; omega)
        have t2 : (abc a b c).drop (a + 1 + b + 1) = List.replicate c 122 := by rw [h2]; exact List.drop_left' (by simp; omega)
        rw [t1, t2, if_pos rfl]
        simp
      · have hg : cutGo ⟨(abc a b c).toArray⟩ (a + 1 + b + 1 + c) 0 = none :=
          go_none a b c (fun j h => by rcases (ok_iff j).1 h with h | h <;> omega) _ 0
        rw [hg]
        dsimp only
        rw [Option.bind_some, if_neg (by omega)]
        dsimp only
        apply hbr
        rw [creelkeep_CutShort.j0, if_neg (by simp), mk_size, mk_size, mk_size, List.length_replicate, List.length_replicate, List.length_replicate, w64 (by omega) (by omega), if_neg (by omega)]
        rfl

end Go.Proofs.Ytpkidejgilmlpaa.Pure
