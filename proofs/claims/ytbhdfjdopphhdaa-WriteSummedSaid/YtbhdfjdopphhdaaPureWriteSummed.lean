/- Changing one byte changes the checksum, which lies in its range and is 1 of no bytes: for all bytes, every place and every other byte. -/
import Derived.Test.YtbhdfjdopphhdaaPWriteSummedx1
import Derived.OpenShut
namespace Go.Proofs.Ytbhdfjdopphhdaa.Pure
open Go.RowKit Go.Proofs.Ytbhdfjdopphhdaa.PWriteSummed Go.Proofs.YtbhdfjdopphhdaaW.PrintWords Go.Proofs.YtbhdfjdopphhdaaW.PrintLast Go.Proofs.YtbhdfjdopphhdaaW.PrintMore
set_option linter.unusedVariables false
set_option linter.unusedSimpArgs false

theorem w64 {n : Int} (h1 : -9223372036854775808 ≤ n) (h2 : n ≤ 9223372036854775807) : wrap64 n = n := by
  unfold wrap64
  omega

theorem picked_spec {a m : Int} (hw : (Lit.int .i64 a).wf = true) (hm : 0 < m) : ∃ t, creelkeep_picked.f a m = some t ∧ 0 ≤ t ∧ t < m := by
  obtain ⟨h1, h2⟩ := bounds_i64 hw
  unfold creelkeep_picked.f
  have e : ¬ m = 0 := by omega
  by_cases h : a < 0
  · rw [if_pos h, if_neg e, w64 (n := a + 1) (by omega) (by omega), w64 (by omega) (by omega)]
    exact ⟨_, rfl, Int.tmod_nonneg _ (by omega), Int.tmod_lt_of_pos _ hm⟩
  · rw [if_neg h, if_neg e]
    exact ⟨_, rfl, Int.tmod_nonneg _ (by omega), Int.tmod_lt_of_pos _ hm⟩

def allB (p : Nat → Bool) : Nat → Nat → Bool
  | 0, b => p b
  | k + 1, b => allB p k (2 * b) && allB p k (2 * b + 1)
theorem allB_at (p : Nat → Bool) : ∀ (k b : Nat), allB p k b = true → ∀ n, b * 2 ^ k ≤ n → n < (b + 1) * 2 ^ k → p n = true
  | 0, b, h, n, h1, h2 => by
    have : n = b := by omega
    subst this; exact h
  | k + 1, b, h, n, h1, h2 => by
    simp only [allB, Bool.and_eq_true] at h
    rw [Nat.pow_succ] at h1 h2
    by_cases c : n < (2 * b + 1) * 2 ^ k
    · exact allB_at p k (2 * b) h.1 n (by rw [Nat.mul_comm 2 b, Nat.mul_assoc, Nat.mul_comm 2 (2 ^ k)]; exact h1) c
    · exact allB_at p k (2 * b + 1) h.2 n (by omega) (by
        have : (2 * b + 1 + 1) * 2 ^ k = (b + 1) * (2 ^ k * 2) := by rw [Nat.mul_comm (2 ^ k) 2, ← Nat.mul_assoc]; congr 1; omega
        omega)

def summed (n : Int) (l : List Int) : Int := l.foldl (fun n c => (n * 31 + c) % 1000003) n
def Byte (l : List Int) : Prop := ∀ x ∈ l, 0 ≤ x ∧ x ≤ 255
theorem summed_range : ∀ (l : List Int) (n : Int), 0 ≤ n → n < 1000003 → 0 ≤ summed n l ∧ summed n l < 1000003
  | [], n, h0, h1 => ⟨h0, h1⟩
  | c :: l, n, h0, h1 => summed_range l ((n * 31 + c) % 1000003) (by omega) (by omega)
theorem summed_ne : ∀ (l : List Int) (n m : Int), 0 ≤ n → n < 1000003 → 0 ≤ m → m < 1000003 → n ≠ m → summed n l ≠ summed m l
  | [], n, m, _, _, _, _, h => h
  | c :: l, n, m, n0, n1, m0, m1, h => by
    apply summed_ne l ((n * 31 + c) % 1000003) ((m * 31 + c) % 1000003) (by omega) (by omega) (by omega) (by omega)
    omega
theorem summed_set : ∀ (l : List Int) (i : Nat) (v n : Int), Byte l → 0 ≤ v → v ≤ 255 → 0 ≤ n → n < 1000003 → i < l.length → v ≠ l.getD i 0 → summed n (l.set i v) ≠ summed n l
  | [], i, _, _, _, _, _, _, _, h, _ => by simp at h
  | c :: l, 0, v, n, hb, v0, v1, n0, n1, _, hv => by
    have hc := hb c (by simp)
    have hv' : v ≠ c := by simpa using hv
    show summed ((n * 31 + v) % 1000003) l ≠ summed ((n * 31 + c) % 1000003) l
    apply summed_ne l _ _ (by omega) (by omega) (by omega) (by omega)
    omega
  | c :: l, i + 1, v, n, hb, v0, v1, n0, n1, hi, hv => by
    show summed ((n * 31 + c) % 1000003) (l.set i v) ≠ summed ((n * 31 + c) % 1000003) l
    exact summed_set l i v _ (fun x hx => hb x (by simp [hx])) v0 v1 (by omega) (by omega) (by simpa using hi) (by simpa using hv)
theorem byte_rd {l : List Int} (h : Byte l) (i : Nat) (hi : i < l.length) : 0 ≤ rd l i ∧ rd l i ≤ 255 := by
  have e : rd l (i : Int) = l[i] := by
    unfold rd
    rw [show ((i : Nat) : Int).toNat = i by omega, List.getD_eq_getElem?_getD, List.getElem?_eq_getElem hi]; rfl
  rw [e]
  exact h _ (List.getElem_mem hi)
theorem sum_loop (l : List Int) (hb : Byte l) (hn : l.length ≤ 140737488351232) : ∀ (d i k : Nat) (n : Int), i + d = l.length → d < k → 0 ≤ n → n < 1000003 →
    write_Sum.l0 k n l (l.length : Int) (i : Int) = some (summed n (l.drop i))
  | 0, i, k, n, hi, hk, _, _ => by
    obtain ⟨k, rfl⟩ : ∃ q, k = q + 1 := ⟨k - 1, by omega⟩
    simp only [write_Sum.l0]
    rw [if_neg (by omega), List.drop_eq_nil_of_le (by omega)]
    rfl
  | d + 1, i, k, n, hi, hk, n0, n1 => by
    obtain ⟨k, rfl⟩ : ∃ q, k = q + 1 := ⟨k - 1, by omega⟩
    have hlt : i < l.length := by omega
    obtain ⟨c0, c1⟩ := byte_rd hb i hlt
    simp only [write_Sum.l0]
    rw [if_pos (by omega), if_pos (by omega), if_pos (by omega), w64 (n := n * 31) (by omega) (by omega), w64 (n := rd l (i : Int)) (by omega) (by omega), w64 (n := n * 31 + rd l (i : Int)) (by omega) (by omega), w64 (n := (i : Int) + 1) (by omega) (by omega), Int.tmod_eq_emod_of_nonneg (by omega)]
    have e : (i : Int) + 1 = ((i + 1 : Nat) : Int) := by omega
    rw [e, sum_loop l hb hn d (i + 1) k _ (by omega) (by omega) (by omega) (by omega)]
    have ed : l.drop i = rd l (i : Int) :: l.drop (i + 1) := by
      rw [List.drop_eq_getElem_cons hlt]
      unfold rd
      rw [show ((i : Nat) : Int).toNat = i by omega, List.getD_eq_getElem?_getD, List.getElem?_eq_getElem hlt]; rfl
    rw [ed]
    rfl
theorem sum_spec (l : List Int) (hb : Byte l) (hn : l.length ≤ 140737488351232) (k : Nat) (hk : l.length < k) : write_Sum.f k l = some (summed 1 l) := by
  have h := sum_loop l hb hn l.length 0 k 1 (by omega) hk (by omega) (by omega)
  simpa [write_Sum.f] using h
def xorOk (n : Nat) : Bool := decide (0 ≤ Go.bits .xor .u8 ((n / 256 : Nat) : Int) ((n % 256 : Nat) : Int)) && decide (Go.bits .xor .u8 ((n / 256 : Nat) : Int) ((n % 256 : Nat) : Int) ≤ 255) && (n % 256 == 0 || decide (Go.bits .xor .u8 ((n / 256 : Nat) : Int) ((n % 256 : Nat) : Int) ≠ ((n / 256 : Nat) : Int)))
theorem xor_all0 : allB xorOk 14 0 = true := by decide +kernel
theorem xor_all1 : allB xorOk 14 1 = true := by decide +kernel
theorem xor_all2 : allB xorOk 14 2 = true := by decide +kernel
theorem xor_all3 : allB xorOk 14 3 = true := by decide +kernel
theorem xor_all (b : Nat) (hb : b < 4) : allB xorOk 14 b = true := by
  obtain rfl | rfl | rfl | rfl : b = 0 ∨ b = 1 ∨ b = 2 ∨ b = 3 := by omega
  · exact xor_all0
  · exact xor_all1
  · exact xor_all2
  · exact xor_all3
theorem xor_ne (c m : Int) (c0 : 0 ≤ c) (c1 : c ≤ 255) (m0 : 1 ≤ m) (m1 : m ≤ 255) : 0 ≤ Go.bits .xor .u8 c m ∧ Go.bits .xor .u8 c m ≤ 255 ∧ Go.bits .xor .u8 c m ≠ c := by
  have h := allB_at xorOk 14 ((c.toNat * 256 + m.toNat) / 16384) (xor_all _ (by omega)) (c.toNat * 256 + m.toNat) (by omega) (by omega)
  have e1 : (c.toNat * 256 + m.toNat) / 256 = c.toNat := by omega
  have e2 : (c.toNat * 256 + m.toNat) % 256 = m.toNat := by omega
  have e3 : ((c.toNat : Nat) : Int) = c := by omega
  have e4 : ((m.toNat : Nat) : Int) = m := by omega
  unfold xorOk at h
  rw [e1, e2, e3, e4] at h
  simp only [Bool.and_eq_true, Bool.or_eq_true, decide_eq_true_eq, beq_iff_eq] at h
  refine ⟨h.1.1, h.1.2, ?_⟩
  rcases h.2 with g | g
  · omega
  · exact g
theorem WriteSummed : creelkeep_WriteSummed.Pure := by
  intro l a by_ _ hl hby ha hb
  have hB : Byte l := fun x hx => bounds_u8 (hby x hx)
  obtain ⟨b0, b1⟩ := bounds_u8 hb
  refine ⟨l.length + 1, ?_⟩
  unfold creelkeep_WriteSummed.f
  rw [sum_spec l hB (by omega) _ (by omega), sum_spec [] (fun x hx => by simp at hx) (by simp) _ (by simp)]
  simp only [Option.bind_some]
  obtain ⟨s0, s1⟩ := summed_range l 1 (by omega) (by omega)
  rw [if_pos (show summed 1 [] = 1 from rfl), if_pos s0, if_pos s1]
  by_cases h0 : l.length = 0
  · rw [if_pos (by omega)]
  · rw [if_neg (by omega)]
    obtain ⟨x, hx, x0, x1⟩ := picked_spec (m := (l.length : Int)) ha (by omega)
    have hrd := byte_rd hB x.toNat (by omega)
    rw [show ((x.toNat : Nat) : Int) = x by omega] at hrd
    have hm : 1 ≤ mx by_ 1 ∧ mx by_ 1 ≤ 255 := by unfold mx; split <;> omega
    obtain ⟨v0, v1, v2⟩ := xor_ne (rd l x) (mx by_ 1) hrd.1 hrd.2 hm.1 hm.2
    have ht : creelkeep_Turned.f l a by_ = some (l.set x.toNat (Go.bits .xor .u8 (rd l x) (mx by_ 1))) := by
      unfold creelkeep_Turned.f slices_Clone_byte_byte.f
      rw [if_pos (by omega)]
      simp only [Option.bind_some]
      rw [if_pos (by omega), hx]
      simp only [Option.bind_some]
      rw [if_pos x0, if_pos x1]
    rw [ht]
    simp only [Option.bind_some]
    have hS : Byte (l.set x.toNat (Go.bits .xor .u8 (rd l x) (mx by_ 1))) := by
      intro y hy
      rcases List.mem_or_eq_of_mem_set hy with h | h
      · exact hB y h
      · rw [h]; exact ⟨v0, v1⟩
    rw [sum_spec _ hS (by rw [List.length_set]; omega) _ (by rw [List.length_set]; omega)]
    simp only [Option.bind_some, Option.some.injEq, bne_iff_ne]
    exact summed_set l x.toNat _ 1 hB v0 v1 (by omega) (by omega) (by omega) v2

end Go.Proofs.Ytbhdfjdopphhdaa.Pure
