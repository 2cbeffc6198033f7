/- With one more digit the greatest number of an octal field is eight times as large and 7 more, and numbers that do not fit are rejected: for every int, brought into a width of 2 .. 11. -/
import Derived.Test.YtbhdfjdopphhdaaPOctalOverx1
import Derived.OpenShut
import Derived.Lib.Strings
import Derived.Lib.SmallJoins
import Derived.Laws.BytesArg
namespace Go.Proofs.Ytbhdfjdopphhdaa.Pure
open Go.RowKit Go.Proofs.Ytbhdfjdopphhdaa.POctalOver Go.Proofs.YtbhdfjdopphhdaaW.PrintWords Go.Proofs.YtbhdfjdopphhdaaW.PrintLast Go.Proofs.YtbhdfjdopphhdaaW.PrintMore
set_option linter.unusedVariables false
set_option linter.unusedSimpArgs false

theorem w64 {n : Int} (h1 : -9223372036854775808 ≤ n) (h2 : n ≤ 9223372036854775807) : wrap64 n = n := by
  unfold wrap64
  omega

theorem picked_spec {a m : Int} (hw : (Lit.int .i64 a).wf = true) (hm : 0 < m) : ∃ t, creelkeep_picked.f a m = some t ∧ 0 ≤ t ∧ t < m := by
  obtain ⟨h1, h2⟩ := bounds_i64 hw
  unfold creelkeep_picked.f
  have e : ¬ m = 0 := by omega
  by_cases h : a < 0
  · rw [if_pos h, if_neg e, w64 (n := a + 1) (by omega) (by omega), w64 (by omega) (by omega)]
    exact ⟨_, rfl, Int.tmod_nonneg _ (by omega), Int.tmod_lt_of_pos _ hm⟩
  · rw [if_neg h, if_neg e]
    exact ⟨_, rfl, Int.tmod_nonneg _ (by omega), Int.tmod_lt_of_pos _ hm⟩

theorem app_list (a b : ByteArray) : (a ++ b).data.toList = a.data.toList ++ b.data.toList := by
  rw [ByteArray.data_append, Array.toList_append]
theorem size_list (a : ByteArray) : a.data.toList.length = a.size := by
  rw [Array.length_toList]; rfl
theorem bytes_ext {a b : ByteArray} (h : a.data.toList = b.data.toList) : a = b := by
  cases a; cases b; simp_all [← Array.toList_inj]

/-- The last m octal digits of n, as bytes. -/
def od : Nat → Int → List Int
  | 0, _ => []
  | m + 1, n => od m (n / 8) ++ [48 + n % 8]
theorem od_length : ∀ (m : Nat) (n : Int), (od m n).length = m
  | 0, _ => rfl
  | m + 1, n => by simp [od, od_length m]
theorem od_range : ∀ (m : Nat) (n : Int), ∀ x ∈ od m n, 48 ≤ x ∧ x ≤ 55
  | 0, _ => by simp [od]
  | m + 1, n => by
    intro x hx
    simp only [od, List.mem_append, List.mem_singleton] at hx
    rcases hx with h | h
    · exact od_range m _ x h
    · omega
theorem most_spec {w : Int} (h2 : 2 ≤ w) (h12 : w ≤ 12) : octal_Most.f w = some ((8 : Int) ^ (w - 1).toNat - 1, 0) := by
  obtain rfl | rfl | rfl | rfl | rfl | rfl | rfl | rfl | rfl | rfl | rfl : w = 2 ∨ w = 3 ∨ w = 4 ∨ w = 5 ∨ w = 6 ∨ w = 7 ∨ w = 8 ∨ w = 9 ∨ w = 10 ∨ w = 11 ∨ w = 12 := by omega
  all_goals decide +kernel
theorem pow8_le {m : Nat} (h : m ≤ 11) : (8 : Int) ^ m ≤ 8589934592 ∧ 1 ≤ (8 : Int) ^ m := by
  obtain rfl | rfl | rfl | rfl | rfl | rfl | rfl | rfl | rfl | rfl | rfl | rfl : m = 0 ∨ m = 1 ∨ m = 2 ∨ m = 3 ∨ m = 4 ∨ m = 5 ∨ m = 6 ∨ m = 7 ∨ m = 8 ∨ m = 9 ∨ m = 10 ∨ m = 11 := by omega
  all_goals decide +kernel
theorem write_loop : ∀ (m k : Nat) (n : Int) (tail : List Int), 0 ≤ n → n ≤ 8589934592 → m ≤ 100 → m < k →
    octal_Write.l0 k n (List.replicate m 0 ++ tail) ((m : Int) - 1) = some (strOfNums (od m n ++ tail), 0)
  | 0, k, n, tail, h0, h1, hm, hk => by
    obtain ⟨k, rfl⟩ : ∃ q, k = q + 1 := ⟨k - 1, by omega⟩
    simp only [octal_Write.l0]
    rw [if_neg (by omega)]
    simp [od]
  | m + 1, k, n, tail, h0, h1, hm, hk => by
    obtain ⟨k, rfl⟩ : ∃ q, k = q + 1 := ⟨k - 1, by omega⟩
    simp only [octal_Write.l0]
    rw [if_pos (by omega), if_pos (by omega), if_pos (by simp; omega)]
    have e1 : (((m + 1 : Nat) : Int) - 1).toNat = m := by omega
    have e2 : (List.replicate (m + 1) (0 : Int) ++ tail).set m ((48 + (Int.tmod n 8 % 256)) % 256) = List.replicate m 0 ++ ((48 + n % 8) :: tail) := by
      rw [List.replicate_succ', List.append_assoc, List.set_append_right _ _ (by simp)]
      simp only [List.length_replicate, Nat.sub_self, List.singleton_append, List.set_cons_zero]
      rw [Int.tmod_eq_emod_of_nonneg h0]
      have : (48 + n % 8 % 256) % 256 = 48 + n % 8 := by omega
      rw [this]
    have e3 : wrap64 (((m + 1 : Nat) : Int) - 1 - 1) = (m : Int) - 1 := by rw [w64 (by omega) (by omega)]; omega
    have e4 : wrap64 (Int.tdiv n 8) = n / 8 := by rw [Int.tdiv_eq_ediv_of_nonneg h0, w64 (by omega) (by omega)]
    rw [e1, e2, e3, e4, write_loop m k (n / 8) _ (by omega) (by omega) (by omega) (by omega)]
    simp [od]
theorem write_spec {n w : Int} {k : Nat} (h2 : 2 ≤ w) (h12 : w ≤ 12) (h0 : 0 ≤ n) (h1 : n < 8 ^ (w - 1).toNat) (hk : 20 ≤ k) :
    octal_Write.f k n w = some (strOfNums (od (w - 1).toNat n ++ [0]), 0) := by
  obtain ⟨k, rfl⟩ : ∃ q, k = q + 1 := ⟨k - 1, by omega⟩
  have hp := pow8_le (m := (w - 1).toNat) (by omega)
  unfold octal_Write.f
  rw [most_spec h2 h12]
  simp only [Option.bind_some, if_true]
  rw [if_neg (by omega)]
  have hd : decide (n > 8 ^ (w - 1).toNat - 1) = false := decide_eq_false (by omega)
  rw [hd]
  simp only [octal_Write.j0, Bool.false_eq_true, if_false]
  rw [if_pos (by omega), if_pos (by omega), w64 (by omega) (by omega)]
  have e1 : w.toNat = (w - 1).toNat + 1 := by omega
  have e2 : w - 2 = (((w - 1).toNat : Nat) : Int) - 1 := by omega
  rw [e1, e2, List.replicate_succ', write_loop _ _ _ _ h0 (by omega) (by omega) (by omega)]
theorem write_over {n w : Int} {k : Nat} (h2 : 2 ≤ w) (h12 : w ≤ 12) (h1 : 8 ^ (w - 1).toNat - 1 < n) (hk : 20 ≤ k) :
    octal_Write.f k n w = some ((⟨#[]⟩ : ByteArray), 4) := by
  obtain ⟨k, rfl⟩ : ∃ q, k = q + 1 := ⟨k - 1, by omega⟩
  have hp := pow8_le (m := (w - 1).toNat) (by omega)
  unfold octal_Write.f
  rw [most_spec h2 h12]
  simp only [Option.bind_some, if_true]
  rw [if_neg (by omega)]
  have hd : decide (n > 8 ^ (w - 1).toNat - 1) = true := decide_eq_true (by omega)
  rw [hd]
  simp only [octal_Write.j0, if_true]

theorem hasPrefix_spec (s p : ByteArray) : strings_HasPrefix.f s p = some (p.data.toList.isPrefixOf s.data.toList) := by
  unfold strings_HasPrefix.f stringslite_HasPrefix.f
  by_cases h : (s.size : Int) ≥ (p.size : Int)
  · rw [if_pos h, if_pos (by omega), if_pos (by omega)]
    simp only [Option.bind_some, Option.some.injEq]
    rw [Lib.extract_toList, Lib.toList_data, Bool.eq_iff_iff, List.isPrefixOf_iff_prefix, beq_iff_eq]
    have hl := size_list s
    have hp := size_list p
    have e : ((p.size : Int)).toNat - 0 = p.data.toList.length := by omega
    rw [List.drop_zero, e]
    constructor
    · intro g; rw [← g]; exact List.take_prefix _ _
    · rintro ⟨t, g⟩; rw [← g]; simp
  · rw [if_neg h]
    simp only [Option.bind_some, Option.some.injEq]
    symm
    rw [Bool.eq_false_iff]
    intro g
    rw [List.isPrefixOf_iff_prefix] at g
    have := g.length_le
    have hl := size_list s
    have hp := size_list p
    omega

theorem od_over : ∀ (m : Nat), (od (m + 2) (8 ^ (m + 1))).take 2 = [49, 48]
  | 0 => by decide +kernel
  | m + 1 => by
    have e : od (m + 1 + 2) (8 ^ (m + 1 + 1)) = od (m + 2) (8 ^ (m + 1)) ++ [48] := by
      have h1 : (8 : Int) ^ (m + 1 + 1) / 8 = 8 ^ (m + 1) := by rw [Int.pow_succ 8 (m + 1)]; omega
      have h2 : (8 : Int) ^ (m + 1 + 1) % 8 = 0 := by rw [Int.pow_succ 8 (m + 1)]; omega
      rw [show m + 1 + 2 = (m + 2) + 1 from rfl, od, h1, h2]; rfl
    rw [e, List.take_append_of_le_length (by rw [od_length]; omega), od_over m]

theorem OctalOver : creelkeep_OctalOver.Pure := by
  intro a ha
  obtain ⟨x, hx, x0, x1⟩ := picked_spec (m := 10) ha (by decide)
  refine ⟨31, ?_⟩
  unfold creelkeep_OctalOver.f
  rw [hx]
  simp only [Option.bind_some]
  rw [w64 (n := 2 + x) (by omega) (by omega), w64 (n := 2 + x + 1) (by omega) (by omega), most_spec (w := 2 + x) (by omega) (by omega), most_spec (w := 2 + x + 1) (by omega) (by omega)]
  simp only [Option.bind_some]
  have e1 : (2 + x - 1).toNat = x.toNat + 1 := by omega
  have e2 : (2 + x + 1 - 1).toNat = x.toNat + 2 := by omega
  rw [e1, e2]
  have hp := pow8_le (m := x.toNat + 1) (by omega)
  have e3 : (8 : Int) ^ (x.toNat + 2) = 8 ^ (x.toNat + 1) * 8 := Int.pow_succ _ _
  rw [w64 (n := (8 : Int) ^ (x.toNat + 1) - 1 + 1) (by omega) (by omega), w64 (n := 8 * ((8 : Int) ^ (x.toNat + 1) - 1)) (by omega) (by omega), w64 (n := 8 * ((8 : Int) ^ (x.toNat + 1) - 1) + 7) (by omega) (by omega)]
  have e4 : (8 : Int) ^ (x.toNat + 1) - 1 + 1 = 8 ^ (x.toNat + 1) := by omega
  rw [e4, write_over (by omega) (by omega) (by rw [e1]; omega) (by omega), write_spec (w := 2 + x + 1) (by omega) (by omega) (by omega) (by rw [e2]; omega) (by omega)]
  simp only [Option.bind_some, if_true]
  rw [if_pos (by omega), hasPrefix_spec]
  simp only [Option.bind_some, Option.some.injEq]
  rw [List.isPrefixOf_iff_prefix, e2]
  have h := od_over x.toNat
  rw [strOfNums_data]
  refine ⟨(((od (x.toNat + 2) (8 ^ (x.toNat + 1))).drop 2) ++ [0]).map fun n : Int => UInt8.ofNat n.toNat, ?_⟩
  have g : od (x.toNat + 2) (8 ^ (x.toNat + 1)) = [49, 48] ++ (od (x.toNat + 2) (8 ^ (x.toNat + 1))).drop 2 := by
    rw [← h, List.take_append_drop]
  rw [g]
  simp

end Go.Proofs.Ytbhdfjdopphhdaa.Pure
