/- A field with other bytes after the first zero byte is rejected: for all strings and numbers (second form: what it reads is of bulk at most 1048576). -/
import Derived.Test.YtpkidejgilmlpaaDoorPFieldStrictx1
import Derived.OpenShut
import Derived.Lib.SplitLaws
import Derived.Lib.IndexBytes
import Derived.Lib.Strings
import Derived.Lib.SmallJoins
namespace Go.Proofs.YtpkidejgilmlpaaDoor.Pure
open Go.RowKit Go.Proofs.YtpkidejgilmlpaaDoor.PFieldStrict Go.Proofs.YtpkidejgilmlpaaDoorW.PrintWords Go.Proofs.YtpkidejgilmlpaaDoorW.PrintLast Go.Proofs.YtpkidejgilmlpaaDoorW.PrintMore
set_option linter.unusedVariables false
set_option linter.unusedSimpArgs false

theorem w64 {n : Int} (h1 : -9223372036854775808 ≤ n) (h2 : n ≤ 9223372036854775807) : wrap64 n = n := by
  unfold wrap64
  omega

theorem picked_spec {a m : Int} (hw : (Lit.int .i64 a).wf = true) (hm : 0 < m) : ∃ t, creelkeep_picked.f a m = some t ∧ 0 ≤ t ∧ t < m := by
  obtain ⟨h1, h2⟩ := bounds_i64 hw
  unfold creelkeep_picked.f
  have e : ¬ m = 0 := by omega
  by_cases h : a < 0
  · rw [if_pos h, if_neg e, w64 (n := a + 1) (by omega) (by omega), w64 (by omega) (by omega)]
    exact ⟨_, rfl, Int.tmod_nonneg _ (by omega), Int.tmod_lt_of_pos _ hm⟩
  · rw [if_neg h, if_neg e]
    exact ⟨_, rfl, Int.tmod_nonneg _ (by omega), Int.tmod_lt_of_pos _ hm⟩

theorem app_list (a b : ByteArray) : (a ++ b).data.toList = a.data.toList ++ b.data.toList := by
  rw [ByteArray.data_append, Array.toList_append]
theorem size_list (a : ByteArray) : a.data.toList.length = a.size := by
  rw [Array.length_toList]; rfl
theorem bytes_ext {a b : ByteArray} (h : a.data.toList = b.data.toList) : a = b := by
  cases a; cases b; simp_all [← Array.toList_inj]

theorem idx_none : ∀ (t : List UInt8) (c : UInt8), c ∉ t → Lib.indexByte t c = -1
  | [], _, _ => rfl
  | b :: t, c, h => by
    have hb : (b == c) = false := by rw [beq_eq_false_iff_ne]; intro e; exact h (by simp [e])
    have ih := idx_none t c (fun hm => h (by simp [hm]))
    simp [Lib.indexByte, hb, ih]
theorem idx_at : ∀ (t r : List UInt8) (c : UInt8), c ∉ t → Lib.indexByte (t ++ c :: r) c = t.length
  | [], r, c, _ => by simp [Lib.indexByte]
  | b :: t, r, c, h => by
    have hb : (b == c) = false := by rw [beq_eq_false_iff_ne]; intro e; exact h (by simp [e])
    have ih := idx_at t r c (fun hm => h (by simp [hm]))
    have hn : ((t.length : Int) == -1) = false := by rw [beq_eq_false_iff_ne]; omega
    simp [Lib.indexByte, hb, ih, hn]
theorem idx_split (l : List UInt8) (c : UInt8) : ∃ t r, l = t ++ r ∧ c ∉ t ∧ (r = [] ∨ ∃ r', r = c :: r') := by
  induction l with
  | nil => exact ⟨[], [], rfl, by simp, .inl rfl⟩
  | cons b l ih =>
    by_cases e : b = c
    · exact ⟨[], b :: l, rfl, by simp, .inr ⟨l, by rw [e]⟩⟩
    · obtain ⟨t, r, h1, h2, h3⟩ := ih
      exact ⟨b :: t, r, by rw [h1]; rfl, by simp [Ne.symm e, h2], h3⟩
theorem repeat_one (c : UInt8) : ∀ n, Lib.repeatL [c] n = List.replicate n c
  | 0 => rfl
  | n + 1 => by simp [Lib.repeatL, repeat_one c n, List.replicate_succ]
theorem mk_list (l : List UInt8) : (⟨l.toArray⟩ : ByteArray).data.toList = l := by simp
theorem mk_size (l : List UInt8) : (⟨l.toArray⟩ : ByteArray).size = l.length := by rw [← size_list, mk_list]
theorem is_mk (s : ByteArray) : s = ⟨s.data.toList.toArray⟩ := by cases s; simp
theorem mk_inj {a b : List UInt8} : (⟨a.toArray⟩ : ByteArray) = ⟨b.toArray⟩ ↔ a = b := ⟨fun h => by have := congrArg (fun x : ByteArray => x.data.toList) h; simpa using this, fun h => by rw [h]⟩
theorem dw_nil (p : UInt8 → Bool) : ∀ l : List UInt8, l.dropWhile p = [] ↔ ∀ x ∈ l, p x = true
  | [] => by simp
  | a :: l => by
    by_cases h : p a = true
    · rw [List.dropWhile_cons_of_pos h, dw_nil p l]; simp [h]
    · rw [List.dropWhile_cons_of_neg h]; simp [h]
theorem trim_zero (r : List UInt8) (c : UInt8) : Lib.trimB r c = [] ↔ ∀ x ∈ r, x = c := by
  unfold Lib.trimB Lib.trimLeftB Lib.trimRightB
  constructor
  · intro h x hx
    have h1 : ∀ y ∈ (r.reverse.dropWhile (· == c)).reverse, (y == c) = true := by
      rw [dw_nil] at h
      exact h
    have h2 : r.reverse.dropWhile (· == c) = [] := by
      cases hd : r.reverse.dropWhile (· == c) with
      | nil => rfl
      | cons a l =>
        have ha := h1 a (by rw [hd]; simp)
        have := List.head?_dropWhile_not (· == c) r.reverse
        rw [hd] at this
        simp [ha] at this
    rw [dw_nil] at h2
    exact eq_of_beq (h2 x (by simpa using hx))
  · intro h
    have h2 : r.reverse.dropWhile (· == c) = [] := by
      rw [dw_nil]
      intro x hx
      exact beq_iff_eq.2 (h x (by simpa using hx))
    rw [h2]
    rfl
theorem toList_mk (l : List UInt8) : (⟨l.toArray⟩ : ByteArray).toList = l := by rw [ByteArray.toList_eq, mk_list]

/-- A text without a byte 0: each is '0' instead. -/
def noz (l : List UInt8) : List UInt8 := l.map fun b => if b = 0 then 48 else b
theorem noz_free (l : List UInt8) : (0 : UInt8) ∉ noz l := by
  intro h
  simp only [noz, List.mem_map] at h
  obtain ⟨b, _, hb⟩ := h
  by_cases e : b = 0
  · rw [if_pos e] at hb; cases hb
  · rw [if_neg e] at hb; exact e hb
theorem replaceK_noz : ∀ (k : Nat) (l : List UInt8), l.count 0 ≤ k → Lib.replaceK [0] [48] k l = noz l
  | 0, l, h => by
    have hn : (0 : UInt8) ∉ l := by
      rw [← List.count_eq_zero]; omega
    simp only [Lib.replaceK, noz]
    symm
    rw [List.map_congr_left (g := id) (fun b hb => by rw [if_neg (fun e : b = 0 => hn (e ▸ hb))]; rfl)]
    simp
  | k + 1, l, h => by
    simp only [Lib.replaceK, Lib.index_one]
    obtain ⟨t, r, rfl, hn, rfl | ⟨r', rfl⟩⟩ := idx_split l 0
    · rw [List.append_nil, idx_none t 0 hn, if_pos (by decide)]
      have := replaceK_noz 0 t (by rw [List.count_eq_zero.2 hn]; omega)
      simpa [Lib.replaceK] using this
    · have hne : ((t.length : Int) == -1) = false := by rw [beq_eq_false_iff_ne]; omega
      rw [idx_at t r' 0 hn, hne]
      have e1 : ((t.length : Nat) : Int).toNat = t.length := by omega
      simp only [Bool.false_eq_true, if_false, e1, List.length_singleton, List.take_left]
      have e2 : (t ++ 0 :: r').drop (t.length + 1) = r' := by
        rw [← List.drop_drop, List.drop_left]; rfl
      rw [e2, replaceK_noz k r' (by rw [List.count_append, List.count_cons_self] at h; omega)]
      have ht : noz t = t := by
        have := replaceK_noz 0 t (by rw [List.count_eq_zero.2 hn]; omega)
        simpa [Lib.replaceK] using this.symm
      simp [noz] at ht ⊢
      exact ht.symm
theorem replaceAll_noz (l : List UInt8) : Lib.replaceAll l [0] [48] = noz l := by
  unfold Lib.replaceAll Lib.replace
  rw [if_neg (by decide)]
  apply replaceK_noz
  unfold Lib.replaceNum
  rw [if_pos (.inl (by decide)), Lib.count_one]
  exact Nat.le_refl _
theorem mn_spec (a b : Int) : mn a b = if a ≤ b then a else b := by
  unfold mn
  split <;> split <;> omega
theorem clean_spec (s : ByteArray) (m : Int) (hs : s.size ≤ 1048576) (h0 : 0 ≤ m) : ∃ l : List UInt8, creelkeep_clean.f s m = some ⟨l.toArray⟩ ∧ (0 : UInt8) ∉ l ∧ (l.length : Int) ≤ m ∧ l.length ≤ s.size := by
  unfold creelkeep_clean.f strings_ReplaceAll.f
  have hc := Lib.countB_le (⟨#[0]⟩ : ByteArray) (by decide) s.size s (Nat.le_refl _)
  have s1 : (⟨#[48]⟩ : ByteArray).size = 1 := rfl
  rw [if_pos (by omega), if_pos (by decide), if_pos (by rw [s1]; omega)]
  have k1 : (⟨#[0]⟩ : ByteArray).data.toList = [0] := rfl
  have k2 : (⟨#[48]⟩ : ByteArray).data.toList = [48] := rfl
  rw [k1, k2, replaceAll_noz]
  simp only [Option.bind_some]
  have hl : (noz s.data.toList).length = s.size := by rw [noz, List.length_map, size_list]
  rw [mk_size, hl, mn_spec]
  have e : (if (s.size : Int) ≤ m then (s.size : Int) else m) = ((min s.size m.toNat : Nat) : Int) := by split <;> omega
  rw [e, if_pos (by omega), if_pos (by omega)]
  have e2 : (((min s.size m.toNat : Nat) : Int)).toNat = min s.size m.toNat := by omega
  refine ⟨(noz s.data.toList).take (min s.size m.toNat), ?_, ?_, ?_, ?_⟩
  · rw [e2]
    congr 1
    apply bytes_ext
    rw [Lib.extract_data, mk_list, mk_list, List.drop_zero, Nat.sub_zero]
  · intro h
    exact noz_free _ (List.mem_of_mem_take h)
  · rw [List.length_take]; omega
  · rw [List.length_take]; omega

theorem repeat_spec (c : UInt8) (n : Int) (h0 : 0 ≤ n) (h1 : n ≤ 1000000) : strings_Repeat.f (⟨#[c]⟩ : ByteArray) n = some ⟨(List.replicate n.toNat c).toArray⟩ := by
  unfold strings_Repeat.f
  have sz : (⟨#[c]⟩ : ByteArray).size = 1 := rfl
  rw [if_pos h0, if_pos (by omega), if_pos (by rw [sz]; omega)]
  have : (⟨#[c]⟩ : ByteArray).data.toList = [c] := rfl
  rw [this, repeat_one]

theorem trim_spec (s : ByteArray) (c : UInt8) (hc : c.toNat < 128) (hs : s.size ≤ 1000000) : strings_Trim.f s (⟨#[c]⟩ : ByteArray) = some ⟨(Lib.trimB s.data.toList c).toArray⟩ := by
  unfold strings_Trim.f
  have sz : (⟨#[c]⟩ : ByteArray).size = 1 := rfl
  have h1 : oneOf (⟨#[c]⟩ : ByteArray) = c := rfl
  rw [if_pos sz, h1, if_pos hc, if_pos (by omega)]

theorem read_field (t r : List UInt8) (b : Bool) (k : Nat) (ht : (0 : UInt8) ∉ t) (hr : r = [] ∨ ∃ r', r = 0 :: r') (h1 : 1 ≤ (t ++ r).length) (h2 : (t ++ r).length ≤ 512) (hk : 1 ≤ k) :
    field_Read.f k ⟨(t ++ r).toArray⟩ b = if (r = [] ∧ b = false) ∨ ¬ (∀ x ∈ r, x = 0) then some ((⟨#[]⟩ : ByteArray), 3) else some (⟨t.toArray⟩, 0) := by
  obtain ⟨k, rfl⟩ : ∃ q, k = q + 1 := ⟨k - 1, by omega⟩
  have hl : (t ++ r).length = t.length + r.length := List.length_append
  unfold field_Read.f
  rw [mk_size, if_neg (by omega)]
  have hd : decide (((t ++ r).length : Int) > 512) = false := decide_eq_false (by omega)
  rw [hd]
  simp only [field_Read.j0, Bool.false_eq_true, if_false]
  unfold strings_IndexByte.f
  simp only [Option.bind_some]
  have e0 : (0 : Int).toNat.toUInt8 = 0 := rfl
  have n0 : (⟨#[]⟩ : ByteArray).toList = [] := by decide +kernel
  have m0 : (⟨#[]⟩ : ByteArray).data.toList = [] := rfl
  have t0 : Lib.trimB [] (0 : UInt8) = [] := rfl
  rw [e0]
  rcases hr with rfl | ⟨r', rfl⟩
  · rw [List.append_nil, idx_none t 0 ht, if_neg (by omega), if_pos trivial]
    have tz : strings_Trim.f (⟨#[]⟩ : ByteArray) (⟨#[0]⟩ : ByteArray) = some ⟨(Lib.trimB [] (0 : UInt8)).toArray⟩ := trim_spec _ 0 (by decide) (by decide)
    cases b with
    | false => simp
    | true =>
      rw [if_pos rfl, tz]
      simp only [Option.bind_some, toList_mk, t0, if_true]
      simp
  · rw [idx_at t r' 0 ht, if_pos (by omega), if_pos (by omega), mk_size, if_pos (by omega)]
    have e1 : ((t.length : Nat) : Int).toNat = t.length := by omega
    have ex : (⟨(t ++ 0 :: r').toArray⟩ : ByteArray).extract t.length (t ++ 0 :: r').length = ⟨(0 :: r').toArray⟩ := by
      apply bytes_ext
      rw [Lib.extract_data, mk_list, mk_list, List.drop_left, List.take_of_length_le (by simp)]
    have ey : (⟨(t ++ 0 :: r').toArray⟩ : ByteArray).extract 0 t.length = ⟨t.toArray⟩ := by
      apply bytes_ext
      rw [Lib.extract_data, mk_list, mk_list, List.drop_zero, Nat.sub_zero, List.take_left]
    rw [e1, ex, ey, toList_mk, if_neg (by simp), trim_spec _ 0 (by decide) (by rw [mk_size]; rw [hl] at h2; omega)]
    simp only [Option.bind_some, toList_mk, mk_list, trim_zero]
    by_cases ca : ∀ x ∈ (0 : UInt8) :: r', x = 0
    · rw [if_pos ca, if_neg (by simp only [not_or, not_and, Classical.not_not]; exact ⟨(fun h => nomatch h), ca⟩)]
    · rw [if_neg ca, if_pos (.inr ca)]

theorem zeros_cons (n : Nat) (h : 0 < n) : ∃ r', List.replicate n (0 : UInt8) = 0 :: r' := by
  cases n with
  | zero => omega
  | succ n => exact ⟨List.replicate n 0, rfl⟩
theorem FieldStrict : creelkeep_FieldStrict.Pure := by
  intro s more a hs hm ha
  obtain ⟨x, hx, x0, x1⟩ := picked_spec (m := 9) ha (by decide)
  obtain ⟨l, hl, hz, hlm, _⟩ := clean_spec s 60 hs (by omega)
  obtain ⟨m, hm', hmz, hmm, _⟩ := clean_spec more 60 hm (by omega)
  refine ⟨2, ?_⟩
  unfold creelkeep_FieldStrict.f
  rw [hl, hm', hx]
  simp only [Option.bind_some]
  rw [w64 (n := 1 + x) (by omega) (by omega), repeat_spec 0 (1 + x) (by omega) (by omega)]
  simp only [Option.bind_some]
  have e1 : (⟨l.toArray⟩ : ByteArray) ++ ⟨(List.replicate (1 + x).toNat 0).toArray⟩ = ⟨(l ++ List.replicate (1 + x).toNat 0).toArray⟩ := by
    apply bytes_ext; rw [app_list, mk_list, mk_list, mk_list]
  have e2 : (⟨(l ++ List.replicate (1 + x).toNat 0).toArray⟩ : ByteArray) ++ ⟨m.toArray⟩ = ⟨(l ++ (List.replicate (1 + x).toNat 0 ++ m)).toArray⟩ := by
    apply bytes_ext; rw [app_list, mk_list, mk_list, mk_list, List.append_assoc]
  have e3 : (⟨(l ++ (List.replicate (1 + x).toNat 0 ++ m)).toArray⟩ : ByteArray) ++ (⟨#[0]⟩ : ByteArray) = ⟨(l ++ (List.replicate (1 + x).toNat 0 ++ m ++ [0])).toArray⟩ := by
    apply bytes_ext
    rw [app_list]
    simp [List.append_assoc]
  rw [e1, e2, e3]
  simp only [mk_size, List.length_append, List.length_replicate]
  rw [if_pos (by omega), if_pos (by omega)]
  simp only [if_pos (show l.length + ((1 + x).toNat + m.length) + 1 ≤ 9223372036854775807 by omega)]
  have z1 : ∃ r', List.replicate (1 + x).toNat (0 : UInt8) ++ m = 0 :: r' := by
    obtain ⟨r', h⟩ := zeros_cons (1 + x).toNat (by omega)
    exact ⟨r' ++ m, by rw [h]; rfl⟩
  have z2 : ∃ r', List.replicate (1 + x).toNat (0 : UInt8) ++ m ++ [0] = 0 :: r' := by
    obtain ⟨r', h⟩ := z1
    exact ⟨r' ++ [0], by rw [h]; rfl⟩
  rw [read_field l _ true 2 hz (.inr z1) (by simp only [List.length_append, List.length_replicate]; omega) (by simp only [List.length_append, List.length_replicate]; omega) (by omega)]
  rw [read_field l _ false 2 hz (.inr z2) (by simp only [List.length_append, List.length_replicate, List.length_singleton]; omega) (by simp only [List.length_append, List.length_replicate, List.length_singleton]; omega) (by omega)]
  rw [toList_mk]
  have n1 : List.replicate (1 + x).toNat (0 : UInt8) ++ m ≠ [] := by obtain ⟨r', h⟩ := z1; rw [h]; simp
  have n2 : List.replicate (1 + x).toNat (0 : UInt8) ++ m ++ [0] ≠ [] := by obtain ⟨r', h⟩ := z2; rw [h]; simp
  cases m with
  | nil =>
    have a1 : ¬ ((List.replicate (1 + x).toNat (0 : UInt8) ++ [] = [] ∧ true = false) ∨ ¬ ∀ y ∈ List.replicate (1 + x).toNat (0 : UInt8) ++ [], y = 0) := by
      rintro (⟨h, _⟩ | h)
      · exact n1 h
      · refine h fun y hy => ?_
        rw [List.append_nil] at hy
        exact List.eq_of_mem_replicate hy
    have a2 : ¬ ((List.replicate (1 + x).toNat (0 : UInt8) ++ [] ++ [0] = [] ∧ false = false) ∨ ¬ ∀ y ∈ List.replicate (1 + x).toNat (0 : UInt8) ++ [] ++ [0], y = 0) := by
      rintro (⟨h, _⟩ | h)
      · exact n2 h
      · refine h fun y hy => ?_
        rw [List.append_nil, List.mem_append, List.mem_singleton] at hy
        rcases hy with hy | hy
        · exact List.eq_of_mem_replicate hy
        · exact hy
    rw [if_neg a1, if_neg a2]
    simp
  | cons c m =>
    have hc : c ≠ 0 := fun h => hmz (by simp [h])
    have a1 : (List.replicate (1 + x).toNat (0 : UInt8) ++ c :: m = [] ∧ true = false) ∨ ¬ ∀ y ∈ List.replicate (1 + x).toNat (0 : UInt8) ++ c :: m, y = 0 := .inr fun h => hc (h c (by simp))
    have a2 : (List.replicate (1 + x).toNat (0 : UInt8) ++ c :: m ++ [0] = [] ∧ false = false) ∨ ¬ ∀ y ∈ List.replicate (1 + x).toNat (0 : UInt8) ++ c :: m ++ [0], y = 0 := .inr fun h => hc (h c (by simp))
    rw [if_pos a1, if_pos a2]
    have n0 : (⟨#[]⟩ : ByteArray).toList = [] := by decide +kernel
    simp [n0]

end Go.Proofs.YtpkidejgilmlpaaDoor.Pure
