/- Reading a written octal field returns the number, and a field has exactly its width: for all pairs of ints, of which the width is brought into 2 .. 12 and the number into the field's range. -/
import Derived.Test.YtbhdfjdopphhdaaPOctalBackx1
import Derived.OpenShut
import Derived.Lib.Strings
import Derived.Lib.SmallJoins
import Derived.Laws.BytesArg
namespace Go.Proofs.Ytbhdfjdopphhdaa.Pure
open Go.RowKit Go.Proofs.Ytbhdfjdopphhdaa.POctalBack Go.Proofs.YtbhdfjdopphhdaaW.PrintWords Go.Proofs.YtbhdfjdopphhdaaW.PrintLast Go.Proofs.YtbhdfjdopphhdaaW.PrintMore

theorem w64 {n : Int} (h1 : -9223372036854775808 ≤ n) (h2 : n ≤ 9223372036854775807) : wrap64 n = n := by
  unfold wrap64
  omega

theorem picked_spec {a m : Int} (hw : (Lit.int .i64 a).wf = true) (hm : 0 < m) : ∃ t, creelkeep_picked.f a m = some t ∧ 0 ≤ t ∧ t < m := by
  obtain ⟨h1, h2⟩ := bounds_i64 hw
  unfold creelkeep_picked.f
  have e : ¬ m = 0 := by omega
  by_cases h : a < 0
  · rw [if_pos h, if_neg e, w64 (n := a + 1) (by omega) (by omega), w64 (by omega) (by omega)]
    exact ⟨_, rfl, Int.tmod_nonneg _ (by omega), Int.tmod_lt_of_pos _ hm⟩
  · rw [if_neg h, if_neg e]
    exact ⟨_, rfl, Int.tmod_nonneg _ (by omega), Int.tmod_lt_of_pos _ hm⟩

theorem app_list (a b : ByteArray) : (a ++ b).data.toList = a.data.toList ++ b.data.toList := by
  rw [ByteArray.data_append, Array.toList_append]
theorem size_list (a : ByteArray) : a.data.toList.length = a.size := by
  rw [Array.length_toList]; rfl
theorem bytes_ext {a b : ByteArray} (h : a.data.toList = b.data.toList) : a = b := by
  cases a; cases b; simp_all [← Array.toList_inj]

/-- The last m octal digits of n, as bytes. -/
def od : Nat → Int → List Int
  | 0, _ => []
  | m + 1, n => od m (n / 8) ++ [48 + n % 8]
theorem od_length : ∀ (m : Nat) (n : Int), (od m n).length = m
  | 0, _ => rfl
  | m + 1, n => by simp [od, od_length m]
theorem od_range : ∀ (m : Nat) (n : Int), ∀ x ∈ od m n, 48 ≤ x ∧ x ≤ 55
  | 0, _ => by simp [od]
  | m + 1, n => by
    intro x hx
    simp only [od, List.mem_append, List.mem_singleton] at hx
    rcases hx with h | h
    · exact od_range m _ x h
    · omega
theorem most_spec {w : Int} (h2 : 2 ≤ w) (h12 : w ≤ 12) : octal_Most.f w = some ((8 : Int) ^ (w - 1).toNat - 1, 0) := by
  obtain rfl | rfl | rfl | rfl | rfl | rfl | rfl | rfl | rfl | rfl | rfl : w = 2 ∨ w = 3 ∨ w = 4 ∨ w = 5 ∨ w = 6 ∨ w = 7 ∨ w = 8 ∨ w = 9 ∨ w = 10 ∨ w = 11 ∨ w = 12 := by omega
  all_goals decide +kernel
theorem pow8_le {m : Nat} (h : m ≤ 11) : (8 : Int) ^ m ≤ 8589934592 ∧ 1 ≤ (8 : Int) ^ m := by
  obtain rfl | rfl | rfl | rfl | rfl | rfl | rfl | rfl | rfl | rfl | rfl | rfl : m = 0 ∨ m = 1 ∨ m = 2 ∨ m = 3 ∨ m = 4 ∨ m = 5 ∨ m = 6 ∨ m = 7 ∨ m = 8 ∨ m = 9 ∨ m = 10 ∨ m = 11 := by omega
  all_goals decide +kernel
theorem write_loop : ∀ (m k : Nat) (n : Int) (tail : List Int), 0 ≤ n → n ≤ 8589934592 → m ≤ 100 → m < k →
    octal_Write.l0 k n (List.replicate m 0 ++ tail) ((m : Int) - 1) = some (strOfNums (od m n ++ tail), 0)
  | 0, k, n, tail, h0, h1, hm, hk => by
    obtain ⟨k, rfl⟩ : ∃ q, k = q + 1 := ⟨k - 1, by omega⟩
    simp only [octal_Write.l0]
    rw [if_neg (by omega)]
    simp [od]
  | m + 1, k, n, tail, h0, h1, hm, hk => by
    obtain ⟨k, rfl⟩ : ∃ q, k = q + 1 := ⟨k - 1, by omega⟩
    simp only [octal_Write.l0]
    rw [if_pos (by omega), if_pos (by omega), if_pos (by simp; omega)]
    have e1 : (((m + 1 : Nat) : Int) - 1).toNat = m := by omega
    have e2 : (List.replicate (m + 1) (0 : Int) ++ tail).set m ((48 + (Int.tmod n 8 % 256)) % 256) = List.replicate m 0 ++ ((48 + n % 8) :: tail) := by
      rw [List.replicate_succ', List.append_assoc, List.set_append_right _ _ (by simp)]
      simp only [List.length_replicate, Nat.sub_self, List.singleton_append, List.set_cons_zero]
      rw [Int.tmod_eq_emod_of_nonneg h0]
      have : (48 + n % 8 % 256) % 256 = 48 + n % 8 := by omega
      rw [this]
    have e3 : wrap64 (((m + 1 : Nat) : Int) - 1 - 1) = (m : Int) - 1 := by rw [w64 (by omega) (by omega)]; omega
    have e4 : wrap64 (Int.tdiv n 8) = n / 8 := by rw [Int.tdiv_eq_ediv_of_nonneg h0, w64 (by omega) (by omega)]
    rw [e1, e2, e3, e4, write_loop m k (n / 8) _ (by omega) (by omega) (by omega) (by omega)]
    simp [od]
theorem write_spec {n w : Int} {k : Nat} (h2 : 2 ≤ w) (h12 : w ≤ 12) (h0 : 0 ≤ n) (h1 : n < 8 ^ (w - 1).toNat) (hk : 20 ≤ k) :
    octal_Write.f k n w = some (strOfNums (od (w - 1).toNat n ++ [0]), 0) := by
  obtain ⟨k, rfl⟩ : ∃ q, k = q + 1 := ⟨k - 1, by omega⟩
  have hp := pow8_le (m := (w - 1).toNat) (by omega)
  unfold octal_Write.f
  rw [most_spec h2 h12]
  simp only [Option.bind_some, if_true]
  rw [if_neg (by omega)]
  have hd : decide (n > 8 ^ (w - 1).toNat - 1) = false := decide_eq_false (by omega)
  rw [hd]
  simp only [octal_Write.j0, Bool.false_eq_true, if_false]
  rw [if_pos (by omega), if_pos (by omega), w64 (by omega) (by omega)]
  have e1 : w.toNat = (w - 1).toNat + 1 := by omega
  have e2 : w - 2 = (((w - 1).toNat : Nat) : Int) - 1 := by omega
  rw [e1, e2, List.replicate_succ', write_loop _ _ _ _ h0 (by omega) (by omega) (by omega)]
theorem write_over {n w : Int} {k : Nat} (h2 : 2 ≤ w) (h12 : w ≤ 12) (h1 : 8 ^ (w - 1).toNat - 1 < n) (hk : 20 ≤ k) :
    octal_Write.f k n w = some ((⟨#[]⟩ : ByteArray), 4) := by
  obtain ⟨k, rfl⟩ : ∃ q, k = q + 1 := ⟨k - 1, by omega⟩
  have hp := pow8_le (m := (w - 1).toNat) (by omega)
  unfold octal_Write.f
  rw [most_spec h2 h12]
  simp only [Option.bind_some, if_true]
  rw [if_neg (by omega)]
  have hd : decide (n > 8 ^ (w - 1).toNat - 1) = true := decide_eq_true (by omega)
  rw [hd]
  simp only [octal_Write.j0, if_true]

theorem bt_list (s : ByteArray) (i : Int) (h : i.toNat < s.size) : bt s i = ((s.data.toList.getD i.toNat 0).toNat : Int) := by
  unfold bt
  rw [dif_pos h]
  have hl : i.toNat < s.data.toList.length := by rw [size_list]; exact h
  rw [List.getD_eq_getElem?_getD, List.getElem?_eq_getElem hl]
  rfl
theorem bt_nums (l : List Int) (i : Int) (h : i.toNat < l.length) (hr : 0 ≤ l.getD i.toNat 0 ∧ l.getD i.toNat 0 ≤ 255) : bt (strOfNums l) i = l.getD i.toNat 0 := by
  rw [bt_list _ _ (by rw [strOfNums_size]; exact h), strOfNums_data]
  rw [List.getD_eq_getElem?_getD, List.getElem?_map]
  rw [List.getD_eq_getElem?_getD] at hr ⊢
  rw [List.getElem?_eq_getElem h] at hr ⊢
  simp only [Option.map_some, Option.getD_some] at hr ⊢
  have : (UInt8.ofNat l[i.toNat].toNat).toNat = l[i.toNat].toNat := by
    rw [UInt8.toNat_ofNat']
    omega
  omega

theorem od_get : ∀ (m : Nat) (n : Int) (j : Nat), 0 ≤ n → j < m → (od m n).getD j 0 = 48 + n / 8 ^ (m - 1 - j) % 8
  | 0, _, _, _, h => by omega
  | m + 1, n, j, h0, h => by
    simp only [od]
    by_cases hj : j < m
    · rw [List.getD_eq_getElem?_getD, List.getElem?_append_left (by rw [od_length]; exact hj), ← List.getD_eq_getElem?_getD, od_get m (n / 8) j (by omega) hj]
      have e : m + 1 - 1 - j = (m - 1 - j) + 1 := by omega
      rw [e, Int.pow_succ', Int.ediv_ediv_of_nonneg (by omega)]
    · obtain rfl : j = m := by omega
      rw [List.getD_eq_getElem?_getD, List.getElem?_append_right (by rw [od_length]; exact Nat.le_refl _), od_length]
      simp
theorem read_loop (m : Nat) (n : Int) (h0 : 0 ≤ n) (h1 : n ≤ 8589934592) (hm : m ≤ 11) : ∀ (d k j : Nat), j + d = m → d < k →
    octal_Read.l0 k (strOfNums (od m n ++ [0])) (n / 8 ^ (m - j)) m j = some (n, 0)
  | 0, k, j, hj, hk => by
    obtain ⟨k, rfl⟩ : ∃ q, k = q + 1 := ⟨k - 1, by omega⟩
    obtain rfl : j = m := by omega
    simp only [octal_Read.l0]
    rw [if_neg (by omega), strOfNums_size, List.length_append, od_length, List.length_singleton]
    rw [w64 (n := ((j + 1 : Nat) : Int) - 1) (by omega) (by omega)]
    rw [if_pos (by omega), if_pos (by omega)]
    have e : (((j + 1 : Nat) : Int) - 1).toNat = j := by omega
    have g : (od j n ++ [0]).getD j 0 = 0 := by
      rw [List.getD_eq_getElem?_getD, List.getElem?_append_right (by rw [od_length]; exact Nat.le_refl _), od_length]; simp
    rw [bt_nums _ _ (by rw [List.length_append, od_length, List.length_singleton]; omega) (by rw [e, g]; omega), e, g]
    simp
  | d + 1, k, j, hj, hk => by
    obtain ⟨k, rfl⟩ : ∃ q, k = q + 1 := ⟨k - 1, by omega⟩
    simp only [octal_Read.l0]
    rw [if_pos (by omega), strOfNums_size, List.length_append, od_length, List.length_singleton]
    rw [if_pos (by omega), if_pos (by omega)]
    have g : (od m n ++ [0]).getD j 0 = 48 + n / 8 ^ (m - 1 - j) % 8 := by
      rw [List.getD_eq_getElem?_getD, List.getElem?_append_left (by rw [od_length]; omega), ← List.getD_eq_getElem?_getD, od_get m n j h0 (by omega)]
    have e : ((j : Nat) : Int).toNat = j := by omega
    have hb : bt (strOfNums (od m n ++ [0])) (j : Int) = 48 + n / 8 ^ (m - 1 - j) % 8 := by
      rw [bt_nums _ _ (by rw [List.length_append, od_length, List.length_singleton]; omega) (by rw [e, g]; omega), e, g]
    rw [hb, if_neg (by omega), if_neg (by omega)]
    have e2 : m - j = (m - 1 - j) + 1 := by omega
    have hq : n / 8 ^ (m - j) = n / 8 ^ (m - 1 - j) / 8 := by
      rw [e2, Int.pow_succ, Int.ediv_ediv_of_nonneg (by have := pow8_le (m := m - 1 - j) (by omega); omega)]
    have hp := pow8_le (m := m - 1 - j) (by omega)
    have hn : 0 ≤ n / 8 ^ (m - 1 - j) := Int.ediv_nonneg h0 (by omega)
    have hn2 : n / 8 ^ (m - 1 - j) ≤ n := Int.ediv_le_self _ h0
    rw [hq, w64 (n := 8 * (n / 8 ^ (m - 1 - j) / 8)) (by omega) (by omega)]
    rw [w64 (n := (j : Int) + 1) (by omega) (by omega)]
    have e3 : 8 * (n / 8 ^ (m - 1 - j) / 8) + (48 + n / 8 ^ (m - 1 - j) % 8 - 48) % 256 = n / 8 ^ (m - (j + 1)) := by
      have : m - (j + 1) = m - 1 - j := by omega
      rw [this]; omega
    rw [e3]
    have e5 : m - (j + 1) = m - 1 - j := by omega
    rw [w64 (by rw [e5]; omega) (by rw [e5]; omega)]
    have e4 : (j : Int) + 1 = ((j + 1 : Nat) : Int) := by omega
    rw [e4, read_loop m n h0 h1 hm d k (j + 1) (by omega) (by omega)]
theorem read_spec {n w : Int} {k : Nat} (h2 : 2 ≤ w) (h12 : w ≤ 12) (h0 : 0 ≤ n) (h1 : n < 8 ^ (w - 1).toNat) (hk : 20 ≤ k) :
    octal_Read.f k (strOfNums (od (w - 1).toNat n ++ [0])) = some (n, 0) := by
  have hp := pow8_le (m := (w - 1).toNat) (by omega)
  have e : ((strOfNums (od (w - 1).toNat n ++ [0])).size : Int) = w := by
    rw [strOfNums_size, List.length_append, od_length, List.length_singleton]; omega
  unfold octal_Read.f
  rw [e, most_spec h2 h12]
  simp only [Option.bind_some, if_true]
  rw [w64 (by omega) (by omega)]
  have e2 : w - 1 = (((w - 1).toNat : Nat) : Int) := by omega
  have e3 : (0 : Int) = n / 8 ^ ((w - 1).toNat - 0) := by
    rw [Nat.sub_zero, Int.ediv_eq_zero_of_lt h0 h1]
  have := read_loop (w - 1).toNat n h0 (by omega) (by omega) (w - 1).toNat k 0 (by omega) (by omega)
  rw [← e3, ← e2] at this
  exact this

theorem OctalBack : creelkeep_OctalBack.Pure := by
  intro a b ha hb
  obtain ⟨x, hx, x0, x1⟩ := picked_spec (m := 11) hb (by decide)
  refine ⟨31, ?_⟩
  unfold creelkeep_OctalBack.f
  rw [hx]
  simp only [Option.bind_some]
  rw [w64 (n := 2 + x) (by omega) (by omega), most_spec (by omega) (by omega)]
  simp only [Option.bind_some, if_true]
  have hp := pow8_le (m := (2 + x - 1).toNat) (by omega)
  have hp8 : (8 : Int) ≤ 8 ^ (2 + x - 1).toNat := by
    have : (2 + x - 1).toNat = x.toNat + 1 := by omega
    have h := pow8_le (m := x.toNat) (by omega)
    rw [this, Int.pow_succ]; omega
  have hd : decide ((8 : Int) ^ (2 + x - 1).toNat - 1 < 7) = false := decide_eq_false (by omega)
  rw [hd]
  simp only [creelkeep_OctalBack.j0, Bool.false_eq_true, if_false]
  rw [w64 (n := (8 : Int) ^ (2 + x - 1).toNat - 1 + 1) (by omega) (by omega)]
  obtain ⟨y, hy, y0, y1⟩ := picked_spec (m := (8 : Int) ^ (2 + x - 1).toNat - 1 + 1) ha (by omega)
  rw [hy]
  simp only [Option.bind_some]
  rw [write_spec (by omega) (by omega) y0 (by omega) (by omega)]
  simp only [Option.bind_some]
  rw [read_spec (by omega) (by omega) y0 (by omega) (by omega)]
  simp only [Option.bind_some, if_true]
  rw [if_pos (by rw [strOfNums_size, List.length_append, od_length, List.length_singleton]; omega)]
  simp

end Go.Proofs.Ytbhdfjdopphhdaa.Pure
