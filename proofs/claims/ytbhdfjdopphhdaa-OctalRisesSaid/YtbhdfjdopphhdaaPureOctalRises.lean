/- Greater numbers have greater octal fields, and equal ones equal fields: for all three ints, of which the third is brought into a width of 2 .. 12 and the others into the field's range. -/
import Derived.Test.YtbhdfjdopphhdaaPOctalRisesx1
import Derived.OpenShut
import Derived.Lib.Strings
import Derived.Lib.SmallJoins
import Derived.Laws.BytesArg
namespace Go.Proofs.Ytbhdfjdopphhdaa.Pure
open Go.RowKit Go.Proofs.Ytbhdfjdopphhdaa.POctalRises Go.Proofs.YtbhdfjdopphhdaaW.PrintWords Go.Proofs.YtbhdfjdopphhdaaW.PrintLast Go.Proofs.YtbhdfjdopphhdaaW.PrintMore
set_option linter.unusedVariables false
set_option linter.unusedSimpArgs false

theorem w64 {n : Int} (h1 : -9223372036854775808 ≤ n) (h2 : n ≤ 9223372036854775807) : wrap64 n = n := by
  unfold wrap64
  omega

theorem picked_spec {a m : Int} (hw : (Lit.int .i64 a).wf = true) (hm : 0 < m) : ∃ t, creelkeep_picked.f a m = some t ∧ 0 ≤ t ∧ t < m := by
  obtain ⟨h1, h2⟩ := bounds_i64 hw
  unfold creelkeep_picked.f
  have e : ¬ m = 0 := by omega
  by_cases h : a < 0
  · rw [if_pos h, if_neg e, w64 (n := a + 1) (by omega) (by omega), w64 (by omega) (by omega)]
    exact ⟨_, rfl, Int.tmod_nonneg _ (by omega), Int.tmod_lt_of_pos _ hm⟩
  · rw [if_neg h, if_neg e]
    exact ⟨_, rfl, Int.tmod_nonneg _ (by omega), Int.tmod_lt_of_pos _ hm⟩

theorem app_list (a b : ByteArray) : (a ++ b).data.toList = a.data.toList ++ b.data.toList := by
  rw [ByteArray.data_append, Array.toList_append]
theorem size_list (a : ByteArray) : a.data.toList.length = a.size := by
  rw [Array.length_toList]; rfl
theorem bytes_ext {a b : ByteArray} (h : a.data.toList = b.data.toList) : a = b := by
  cases a; cases b; simp_all [← Array.toList_inj]

/-- The last m octal digits of n, as bytes. -/
def od : Nat → Int → List Int
  | 0, _ => []
  | m + 1, n => od m (n / 8) ++ [48 + n % 8]
theorem od_length : ∀ (m : Nat) (n : Int), (od m n).length = m
  | 0, _ => rfl
  | m + 1, n => by simp [od, od_length m]
theorem od_range : ∀ (m : Nat) (n : Int), ∀ x ∈ od m n, 48 ≤ x ∧ x ≤ 55
  | 0, _ => by simp [od]
  | m + 1, n => by
    intro x hx
    simp only [od, List.mem_append, List.mem_singleton] at hx
    rcases hx with h | h
    · exact od_range m _ x h
    · omega
theorem most_spec {w : Int} (h2 : 2 ≤ w) (h12 : w ≤ 12) : octal_Most.f w = some ((8 : Int) ^ (w - 1).toNat - 1, 0) := by
  obtain rfl | rfl | rfl | rfl | rfl | rfl | rfl | rfl | rfl | rfl | rfl : w = 2 ∨ w = 3 ∨ w = 4 ∨ w = 5 ∨ w = 6 ∨ w = 7 ∨ w = 8 ∨ w = 9 ∨ w = 10 ∨ w = 11 ∨ w = 12 := by omega
  all_goals decide +kernel
theorem pow8_le {m : Nat} (h : m ≤ 11) : (8 : Int) ^ m ≤ 8589934592 ∧ 1 ≤ (8 : Int) ^ m := by
  obtain rfl | rfl | rfl | rfl | rfl | rfl | rfl | rfl | rfl | rfl | rfl | rfl : m = 0 ∨ m = 1 ∨ m = 2 ∨ m = 3 ∨ m = 4 ∨ m = 5 ∨ m = 6 ∨ m = 7 ∨ m = 8 ∨ m = 9 ∨ m = 10 ∨ m = 11 := by omega
  all_goals decide +kernel
theorem write_loop : ∀ (m k : Nat) (n : Int) (tail : List Int), 0 ≤ n → n ≤ 8589934592 → m ≤ 100 → m < k →
    octal_Write.l0 k n (List.replicate m 0 ++ tail) ((m : Int) - 1) = some (strOfNums (od m n ++ tail), 0)
  | 0, k, n, tail, h0, h1, hm, hk => by
    obtain ⟨k, rfl⟩ : ∃ q, k = q + 1 := ⟨k - 1, by omega⟩
    simp only [octal_Write.l0]
    rw [if_neg (by omega)]
    simp [od]
  | m + 1, k, n, tail, h0, h1, hm, hk => by
    obtain ⟨k, rfl⟩ : ∃ q, k = q + 1 := ⟨k - 1, by omega⟩
    simp only [octal_Write.l0]
    rw [if_pos (by omega), if_pos (by omega), if_pos (by simp; omega)]
    have e1 : (((m + 1 : Nat) : Int) - 1).toNat = m := by omega
    have e2 : (List.replicate (m + 1) (0 : Int) ++ tail).set m ((48 + (Int.tmod n 8 % 256)) % 256) = List.replicate m 0 ++ ((48 + n % 8) :: tail) := by
      rw [List.replicate_succ', List.append_assoc, List.set_append_right _ _ (by simp)]
      simp only [List.length_replicate, Nat.sub_self, List.singleton_append, List.set_cons_zero]
      rw [Int.tmod_eq_emod_of_nonneg h0]
      have : (48 + n % 8 % 256) % 256 = 48 + n % 8 := by omega
      rw [this]
    have e3 : wrap64 (((m + 1 : Nat) : Int) - 1 - 1) = (m : Int) - 1 := by rw [w64 (by omega) (by omega)]; omega
    have e4 : wrap64 (Int.tdiv n 8) = n / 8 := by rw [Int.tdiv_eq_ediv_of_nonneg h0, w64 (by omega) (by omega)]
    rw [e1, e2, e3, e4, write_loop m k (n / 8) _ (by omega) (by omega) (by omega) (by omega)]
    simp [od]
theorem write_spec {n w : Int} {k : Nat} (h2 : 2 ≤ w) (h12 : w ≤ 12) (h0 : 0 ≤ n) (h1 : n < 8 ^ (w - 1).toNat) (hk : 20 ≤ k) :
    octal_Write.f k n w = some (strOfNums (od (w - 1).toNat n ++ [0]), 0) := by
  obtain ⟨k, rfl⟩ : ∃ q, k = q + 1 := ⟨k - 1, by omega⟩
  have hp := pow8_le (m := (w - 1).toNat) (by omega)
  unfold octal_Write.f
  rw [most_spec h2 h12]
  simp only [Option.bind_some, if_true]
  rw [if_neg (by omega)]
  have hd : decide (n > 8 ^ (w - 1).toNat - 1) = false := decide_eq_false (by omega)
  rw [hd]
  simp only [octal_Write.j0, Bool.false_eq_true, if_false]
  rw [if_pos (by omega), if_pos (by omega), w64 (by omega) (by omega)]
  have e1 : w.toNat = (w - 1).toNat + 1 := by omega
  have e2 : w - 2 = (((w - 1).toNat : Nat) : Int) - 1 := by omega
  rw [e1, e2, List.replicate_succ', write_loop _ _ _ _ h0 (by omega) (by omega) (by omega)]
theorem write_over {n w : Int} {k : Nat} (h2 : 2 ≤ w) (h12 : w ≤ 12) (h1 : 8 ^ (w - 1).toNat - 1 < n) (hk : 20 ≤ k) :
    octal_Write.f k n w = some ((⟨#[]⟩ : ByteArray), 4) := by
  obtain ⟨k, rfl⟩ : ∃ q, k = q + 1 := ⟨k - 1, by omega⟩
  have hp := pow8_le (m := (w - 1).toNat) (by omega)
  unfold octal_Write.f
  rw [most_spec h2 h12]
  simp only [Option.bind_some, if_true]
  rw [if_neg (by omega)]
  have hd : decide (n > 8 ^ (w - 1).toNat - 1) = true := decide_eq_true (by omega)
  rw [hd]
  simp only [octal_Write.j0, if_true]

def u8s (l : List Int) : List UInt8 := l.map fun n => UInt8.ofNat n.toNat
theorem u8s_append (a b : List Int) : u8s (a ++ b) = u8s a ++ u8s b := by simp [u8s]
theorem u8s_length (a : List Int) : (u8s a).length = a.length := by simp [u8s]
theorem less_snoc : ∀ (x y : List UInt8) (c d : UInt8), x.length = y.length → Op.bytesLess (x ++ [c]) (y ++ [d]) = (Op.bytesLess x y || (x == y && decide (c < d)))
  | [], [], c, d, _ => by simp [Op.bytesLess]
  | a :: x, b :: y, c, d, h => by
    simp only [List.cons_append, Op.bytesLess]
    rw [less_snoc x y c d (by simpa using h)]
    by_cases e : a = b
    · subst e
      simp
    · have : (a == b) = false := by simpa using e
      simp [this, e]
  | [], _ :: _, _, _, h => by simp at h
  | _ :: _, [], _, _, h => by simp at h
theorem u8_lt (a b : Int) (ha : 0 ≤ a) (hb : 0 ≤ b) : (UInt8.ofNat (48 + a % 8).toNat < UInt8.ofNat (48 + b % 8).toNat) ↔ a % 8 < b % 8 := by
  rw [UInt8.lt_iff_toNat_lt, UInt8.toNat_ofNat', UInt8.toNat_ofNat']
  omega
theorem u8_eq (a b : Int) (ha : 0 ≤ a) (hb : 0 ≤ b) : (UInt8.ofNat (48 + a % 8).toNat = UInt8.ofNat (48 + b % 8).toNat) ↔ a % 8 = b % 8 := by
  rw [← UInt8.toNat_inj, UInt8.toNat_ofNat', UInt8.toNat_ofNat']
  omega
theorem od_order : ∀ (m : Nat) (a b : Int), 0 ≤ a → 0 ≤ b → a < 8 ^ m → b < 8 ^ m →
    (Op.bytesLess (u8s (od m a)) (u8s (od m b)) = decide (a < b)) ∧ ((u8s (od m a) = u8s (od m b)) ↔ a = b)
  | 0, a, b, ha, hb, ha', hb' => by
    simp only [Int.pow_zero] at ha' hb'
    obtain rfl : a = 0 := by omega
    obtain rfl : b = 0 := by omega
    simp [od, u8s, Op.bytesLess]
  | m + 1, a, b, ha, hb, ha', hb' => by
    rw [Int.pow_succ] at ha' hb'
    obtain ⟨i1, i2⟩ := od_order m (a / 8) (b / 8) (by omega) (by omega) (by omega) (by omega)
    have s1 : ∀ c : Int, u8s [48 + c % 8] = [UInt8.ofNat (48 + c % 8).toNat] := fun _ => rfl
    simp only [od, u8s_append, s1]
    constructor
    · rw [less_snoc _ _ _ _ (by rw [u8s_length, u8s_length, od_length, od_length]), i1]
      rw [Bool.eq_iff_iff]
      simp only [Bool.or_eq_true, Bool.and_eq_true, decide_eq_true_eq, beq_iff_eq, i2, u8_lt a b ha hb]
      omega
    · constructor
      · intro h
        have := List.append_inj h (by rw [u8s_length, u8s_length, od_length, od_length])
        obtain ⟨h1, h2⟩ := this
        have h3 := i2.1 h1
        simp only [List.cons.injEq, and_true] at h2
        have h4 := (u8_eq a b ha hb).1 h2
        omega
      · rintro rfl; rfl
theorem str_list (l : List Int) : (strOfNums l).toList = u8s l := by
  rw [ByteArray.toList_eq, strOfNums_data]; rfl

theorem OctalRises : creelkeep_OctalRises.Pure := by
  intro a b c ha hb hc
  obtain ⟨x, hx, x0, x1⟩ := picked_spec (m := 11) hc (by decide)
  refine ⟨31, ?_⟩
  unfold creelkeep_OctalRises.f
  rw [hx]
  simp only [Option.bind_some]
  rw [w64 (n := 2 + x) (by omega) (by omega), most_spec (by omega) (by omega)]
  simp only [Option.bind_some, if_true]
  have hp := pow8_le (m := (2 + x - 1).toNat) (by omega)
  have hp8 : (8 : Int) ≤ 8 ^ (2 + x - 1).toNat := by
    have : (2 + x - 1).toNat = x.toNat + 1 := by omega
    have h := pow8_le (m := x.toNat) (by omega)
    rw [this, Int.pow_succ]; omega
  have hd : decide ((8 : Int) ^ (2 + x - 1).toNat - 1 < 7) = false := decide_eq_false (by omega)
  rw [hd]
  simp only [creelkeep_OctalRises.j0, Bool.false_eq_true, if_false]
  rw [w64 (n := (8 : Int) ^ (2 + x - 1).toNat - 1 + 1) (by omega) (by omega)]
  obtain ⟨y, hy, y0, y1⟩ := picked_spec (m := (8 : Int) ^ (2 + x - 1).toNat - 1 + 1) ha (by omega)
  obtain ⟨z, hz, z0, z1⟩ := picked_spec (m := (8 : Int) ^ (2 + x - 1).toNat - 1 + 1) hb (by omega)
  rw [hy, hz]
  simp only [Option.bind_some]
  rw [write_spec (by omega) (by omega) y0 (by omega) (by omega), write_spec (by omega) (by omega) z0 (by omega) (by omega)]
  simp only [Option.bind_some, if_true]
  obtain ⟨o1, o2⟩ := od_order (2 + x - 1).toNat y z y0 z0 (by omega) (by omega)
  have l1 : Op.bytesLess (strOfNums (od (2 + x - 1).toNat y ++ [0])).toList (strOfNums (od (2 + x - 1).toNat z ++ [0])).toList = decide (y < z) := by
    rw [str_list, str_list, u8s_append, u8s_append]
    have : u8s [0] = [(0 : UInt8)] := rfl
    rw [this, less_snoc _ _ _ _ (by rw [u8s_length, u8s_length, od_length, od_length]), o1]
    simp
  have l2 : ((strOfNums (od (2 + x - 1).toNat y ++ [0])).toList == (strOfNums (od (2 + x - 1).toNat z ++ [0])).toList) = (y == z) := by
    rw [str_list, str_list, u8s_append, u8s_append, Bool.eq_iff_iff]
    simp only [beq_iff_eq, List.append_cancel_right_eq]
    exact o2
  rw [l1, l2]
  simp

end Go.Proofs.Ytbhdfjdopphhdaa.Pure
