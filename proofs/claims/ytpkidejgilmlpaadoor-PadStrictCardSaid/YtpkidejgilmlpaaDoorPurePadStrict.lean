/- What fills up is nought: for every slice of bytes, every int and every byte. -/
import Derived.Test.YtpkidejgilmlpaaDoorPPadStrictx1
import Derived.OpenShut
import Derived.Lib.Strings
import Derived.Lib.SmallJoins
namespace Go.Proofs.YtpkidejgilmlpaaDoor.Pure
open Go.RowKit Go.Proofs.YtpkidejgilmlpaaDoor.PPadStrict Go.Proofs.YtpkidejgilmlpaaDoorW.PrintWords Go.Proofs.YtpkidejgilmlpaaDoorW.PrintLast Go.Proofs.YtpkidejgilmlpaaDoorW.PrintMore
set_option linter.unusedVariables false
set_option linter.unusedSimpArgs false

theorem w64 {n : Int} (h1 : -9223372036854775808 ≤ n) (h2 : n ≤ 9223372036854775807) : wrap64 n = n := by
  unfold wrap64
  omega

theorem picked_spec {a m : Int} (hw : (Lit.int .i64 a).wf = true) (hm : 0 < m) : ∃ t, creelkeep_picked.f a m = some t ∧ 0 ≤ t ∧ t < m := by
  obtain ⟨h1, h2⟩ := bounds_i64 hw
  unfold creelkeep_picked.f
  have e : ¬ m = 0 := by omega
  by_cases h : a < 0
  · rw [if_pos h, if_neg e, w64 (n := a + 1) (by omega) (by omega), w64 (by omega) (by omega)]
    exact ⟨_, rfl, Int.tmod_nonneg _ (by omega), Int.tmod_lt_of_pos _ hm⟩
  · rw [if_neg h, if_neg e]
    exact ⟨_, rfl, Int.tmod_nonneg _ (by omega), Int.tmod_lt_of_pos _ hm⟩

theorem app_list (a b : ByteArray) : (a ++ b).data.toList = a.data.toList ++ b.data.toList := by
  rw [ByteArray.data_append, Array.toList_append]
theorem size_list (a : ByteArray) : a.data.toList.length = a.size := by
  rw [Array.length_toList]; rfl
theorem bytes_ext {a b : ByteArray} (h : a.data.toList = b.data.toList) : a = b := by
  cases a; cases b; simp_all [← Array.toList_inj]

theorem idx_none : ∀ (t : List UInt8) (c : UInt8), c ∉ t → Lib.indexByte t c = -1
  | [], _, _ => rfl
  | b :: t, c, h => by
    have hb : (b == c) = false := by rw [beq_eq_false_iff_ne]; intro e; exact h (by simp [e])
    have ih := idx_none t c (fun hm => h (by simp [hm]))
    simp [Lib.indexByte, hb, ih]
theorem idx_at : ∀ (t r : List UInt8) (c : UInt8), c ∉ t → Lib.indexByte (t ++ c :: r) c = t.length
  | [], r, c, _ => by simp [Lib.indexByte]
  | b :: t, r, c, h => by
    have hb : (b == c) = false := by rw [beq_eq_false_iff_ne]; intro e; exact h (by simp [e])
    have ih := idx_at t r c (fun hm => h (by simp [hm]))
    have hn : ((t.length : Int) == -1) = false := by rw [beq_eq_false_iff_ne]; omega
    simp [Lib.indexByte, hb, ih, hn]
theorem idx_split (l : List UInt8) (c : UInt8) : ∃ t r, l = t ++ r ∧ c ∉ t ∧ (r = [] ∨ ∃ r', r = c :: r') := by
  induction l with
  | nil => exact ⟨[], [], rfl, by simp, .inl rfl⟩
  | cons b l ih =>
    by_cases e : b = c
    · exact ⟨[], b :: l, rfl, by simp, .inr ⟨l, by rw [e]⟩⟩
    · obtain ⟨t, r, h1, h2, h3⟩ := ih
      exact ⟨b :: t, r, by rw [h1]; rfl, by simp [Ne.symm e, h2], h3⟩
theorem repeat_one (c : UInt8) : ∀ n, Lib.repeatL [c] n = List.replicate n c
  | 0 => rfl
  | n + 1 => by simp [Lib.repeatL, repeat_one c n, List.replicate_succ]
theorem mk_list (l : List UInt8) : (⟨l.toArray⟩ : ByteArray).data.toList = l := by simp
theorem mk_size (l : List UInt8) : (⟨l.toArray⟩ : ByteArray).size = l.length := by rw [← size_list, mk_list]
theorem is_mk (s : ByteArray) : s = ⟨s.data.toList.toArray⟩ := by cases s; simp
theorem mk_inj {a b : List UInt8} : (⟨a.toArray⟩ : ByteArray) = ⟨b.toArray⟩ ↔ a = b := ⟨fun h => by have := congrArg (fun x : ByteArray => x.data.toList) h; simpa using this, fun h => by rw [h]⟩
theorem dw_nil (p : UInt8 → Bool) : ∀ l : List UInt8, l.dropWhile p = [] ↔ ∀ x ∈ l, p x = true
  | [] => by simp
  | a :: l => by
    by_cases h : p a = true
    · rw [List.dropWhile_cons_of_pos h, dw_nil p l]; simp [h]
    · rw [List.dropWhile_cons_of_neg h]; simp [h]
theorem trim_zero (r : List UInt8) (c : UInt8) : Lib.trimB r c = [] ↔ ∀ x ∈ r, x = c := by
  unfold Lib.trimB Lib.trimLeftB Lib.trimRightB
  constructor
  · intro h x hx
    have h1 : ∀ y ∈ (r.reverse.dropWhile (· == c)).reverse, (y == c) = true := by
      rw [dw_nil] at h
      exact h
    have h2 : r.reverse.dropWhile (· == c) = [] := by
      cases hd : r.reverse.dropWhile (· == c) with
      | nil => rfl
      | cons a l =>
        have ha := h1 a (by rw [hd]; simp)
        have := List.head?_dropWhile_not (· == c) r.reverse
        rw [hd] at this
        simp [ha] at this
    rw [dw_nil] at h2
    exact eq_of_beq (h2 x (by simpa using hx))
  · intro h
    have h2 : r.reverse.dropWhile (· == c) = [] := by
      rw [dw_nil]
      intro x hx
      exact beq_iff_eq.2 (h x (by simpa using hx))
    rw [h2]
    rfl
theorem toList_mk (l : List UInt8) : (⟨l.toArray⟩ : ByteArray).toList = l := by rw [ByteArray.toList_eq, mk_list]

theorem trim_spec (s : ByteArray) (c : UInt8) (hc : c.toNat < 128) (hs : s.size ≤ 1000000) : strings_Trim.f s (⟨#[c]⟩ : ByteArray) = some ⟨(Lib.trimB s.data.toList c).toArray⟩ := by
  unfold strings_Trim.f
  have sz : (⟨#[c]⟩ : ByteArray).size = 1 := rfl
  have h1 : oneOf (⟨#[c]⟩ : ByteArray) = c := rfl
  rw [if_pos sz, h1, if_pos hc, if_pos (by omega)]

theorem nums_list (l : List Int) : (strOfNums l).data.toList = l.map (fun x => UInt8.ofNat x.toNat) := by rw [strOfNums_data]
theorem nums_size (l : List Int) : (strOfNums l).size = l.length := strOfNums_size l
theorem blocks_spec (n : Int) (h0 : 0 ≤ n) (h1 : n ≤ 8589934591) : pad_Blocks.f n = some ((n + 511) / 512, 0) := by
  unfold pad_Blocks.f
  rw [if_neg (by omega), if_neg (by omega), w64 (n := n + 512) (by omega) (by omega), w64 (n := n + 512 - 1) (by omega) (by omega)]
  rw [Int.tdiv_eq_ediv_of_nonneg (by omega), show n + 512 - 1 = n + 511 by omega, w64 (by omega) (by omega)]

theorem PadStrict : creelkeep_PadStrict.Pure := by
  intro l0 a1 a2 hm hm2 hw w1 w2
  obtain ⟨b0, b1⟩ := bounds_u8 w2
  obtain ⟨n, hn⟩ : ∃ n : Nat, (n : Int) = mn (l0.length : Int) 400 := ⟨(mn (l0.length : Int) 400).toNat, by unfold mn; split <;> omega⟩
  have hn1 : n ≤ 400 ∧ n ≤ l0.length := by unfold mn at hn; split at hn <;> omega
  unfold creelkeep_PadStrict.f
  rw [← hn, if_pos (by omega), if_pos (by omega), Int.toNat_natCast]
  have hl : (l0.take n).length = n := by rw [List.length_take]; omega
  obtain ⟨l, hle⟩ : ∃ l, l0.take n = l := ⟨_, rfl⟩
  rw [hle] at hl ⊢
  unfold slices_Clone_byte_byte.f
  rw [if_pos (by omega), Option.bind_some, if_pos (by omega), Option.bind_some]
  have hy : (l ++ [120] : List Int).length = n + 1 := by rw [List.length_append, hl]; rfl
  obtain ⟨y, hye⟩ : ∃ y : List Int, l ++ [120] = y := ⟨_, rfl⟩
  rw [hye] at hy ⊢
  unfold pad_Fill.f
  have hr : ((512 - ((y.length : Int) % 512)) % 512) = 512 - ((n + 1 : Nat) : Int) := by rw [hy]; omega
  rw [hr, if_pos (by rw [List.length_nil]; omega), Option.bind_some, if_pos (by omega), List.nil_append, if_pos (by omega), Option.bind_some]
  have hz : (512 - ((n + 1 : Nat) : Int)).toNat = 511 - n := by omega
  rw [hz]
  have hF : (y ++ List.replicate (511 - n) (0 : Int)).length = 512 := by rw [List.length_append, List.length_replicate]; omega
  obtain ⟨F, hFe⟩ : ∃ F : List Int, y ++ List.replicate (511 - n) (0 : Int) = F := ⟨_, rfl⟩
  rw [hFe] at hF ⊢
  rw [if_pos (by omega), hy, w64 (by omega) (by omega)]
  obtain ⟨x, hx, x0, x1⟩ := picked_spec (m := 512 - ((n + 1 : Nat) : Int)) w1 (by omega)
  rw [hx, Option.bind_some, w64 (by omega) (by omega), if_pos (by omega), if_pos (by omega), Option.bind_some]
  obtain ⟨i, hi⟩ : ∃ i : Nat, (i : Int) = ((n + 1 : Nat) : Int) + x := ⟨(((n + 1 : Nat) : Int) + x).toNat, by omega⟩
  have hin : n + 1 ≤ i ∧ i < 512 := by omega
  rw [← hi, Int.toNat_natCast]
  have hm : 1 ≤ mx a2 1 ∧ mx a2 1 ≤ 255 := by unfold mx; split <;> omega
  obtain ⟨v, hv⟩ : ∃ v, mx a2 1 = v := ⟨_, rfl⟩
  rw [hv] at hm ⊢
  have hS : (F.set i v).length = 512 := by rw [List.length_set, hF]
  have hb := blocks_spec ((n + 1 : Nat) : Int) (by omega) (by omega)
  have hone : (((n + 1 : Nat) : Int) + 511) / 512 = 1 := by omega
  rw [hone] at hb
  have c1 : pad_Cut.f (F.set i v) ((n + 1 : Nat) : Int) = some ([], [], 3) := by
    unfold pad_Cut.f
    rw [hb, Option.bind_some]
    dsimp only
    rw [if_pos rfl, show wrap64 (1 * 512) = 512 from by decide +kernel, if_neg (by omega), if_pos (by omega), if_pos (by omega), if_pos (by omega)]
    rw [trim_spec _ 0 (by decide) (by rw [nums_size, List.length_drop, List.length_take]; omega), Option.bind_some, toList_mk, nums_list]
    rw [if_neg]
    intro h
    rw [trim_zero] at h
    have hmem : v ∈ List.drop ((n + 1 : Nat) : Int).toNat (List.take (512 : Int).toNat (F.set i v)) := by
      rw [List.take_of_length_le (by rw [hS]; decide)]
      rw [List.mem_iff_getElem?]
      refine ⟨i - (n + 1), ?_⟩
      rw [List.getElem?_drop, show ((n + 1 : Nat) : Int).toNat + (i - (n + 1)) = i by omega, List.getElem?_set_self (by omega)]
    have := h _ (List.mem_map_of_mem hmem)
    have := congrArg UInt8.toNat this
    rw [UInt8.toNat_ofNat'] at this
    have h0 : (0 : UInt8).toNat = 0 := rfl
    omega
  have c2 : pad_Cut.f ((F.set i v).take 511) ((n + 1 : Nat) : Int) = some ([], [], 7) := by
    unfold pad_Cut.f
    rw [hb, Option.bind_some]
    dsimp only
    rw [if_pos rfl, show wrap64 (1 * 512) = 512 from by decide +kernel, if_pos (by rw [List.length_take]; omega)]
  rw [c1, Option.bind_some, if_pos (by omega), c2, Option.bind_some]
  rfl

end Go.Proofs.YtpkidejgilmlpaaDoor.Pure
