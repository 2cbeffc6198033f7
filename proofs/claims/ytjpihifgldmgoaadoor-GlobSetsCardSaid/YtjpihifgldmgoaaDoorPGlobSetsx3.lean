-- Written by a program of this session for this claim (wip/myprint.py over the kit's print).
import Derived.Test.YtjpihifgldmgoaaDoorPGlobSetsx0
import Derived.Test.YtjpihifgldmgoaaDoorPGlobSetsx1
import Derived.Test.YtjpihifgldmgoaaDoorPGlobSetsx2
namespace Go.Proofs.YtjpihifgldmgoaaDoor.PGlobSets
open Go.RowKit Go.Proofs.YtjpihifgldmgoaaDoorW.PrintWords Go.Proofs.YtjpihifgldmgoaaDoorW.PrintLast Go.Proofs.YtjpihifgldmgoaaDoorW.PrintMore
attribute [local go_sem] max2_int min2_int max_two min_two max_three min_three max_four min_four   -- for this text's walks alone
set_option linter.unusedVariables false
set_option linter.unusedSimpArgs false

/-! ### glob_part: function 41 -/
/-- What is left of the search. -/
def wildM (n m : Nat) (last from_ k : Int) : Nat := (((n : Int) - last).toNat * (m + 1) + ((m : Int) - from_).toNat) * (m + 1) + ((m : Int) - k).toNat
theorem lexM (m a b c a' b' c' : Nat) (hb : b' ≤ m) (hc : c' ≤ m) (h : a' < a ∨ (a' = a ∧ (b' < b ∨ (b' = b ∧ c' < c)))) : (a' * (m + 1) + b') * (m + 1) + c' < (a * (m + 1) + b) * (m + 1) + c := by
  have key : a' * (m + 1) + b' < a * (m + 1) + b ∨ (a' * (m + 1) + b' = a * (m + 1) + b ∧ c' < c) := by
    rcases h with h | ⟨rfl, h | ⟨rfl, h⟩⟩
    · left
      have := Nat.mul_le_mul_right (m + 1) (show a' + 1 ≤ a from h)
      rw [Nat.succ_mul] at this
      omega
    · left; omega
    · right; exact ⟨rfl, h⟩
  rcases key with h | ⟨h, h2⟩
  · have := Nat.mul_le_mul_right (m + 1) (show (a' * (m + 1) + b') + 1 ≤ a * (m + 1) + b from h)
    rw [Nat.succ_mul] at this
    omega
  · rw [h]; omega
set_option maxHeartbeats 4000000 in
set_option maxRecDepth 100000 in
theorem wildB (n m : Nat) (hn : n ≤ 1000000000) (hm : m ≤ 1000000000) (st : Nat → Bool) (ft : Nat → Nat → Bool) (ps pf : Addr) (w : World)
    (hst : ∀ (W : World) (i : Nat), Below w.heap.size w W → i < n → Calls Tryd.prog 53 #[.int .i64 (i : Int), .pointer (some ps)] W fun e w' => e = .returned (.bool (st i)) ∧ Below W.heap.size W w')
    (hft : ∀ (W : World) (i k : Nat), Below w.heap.size w W → i < n → k < m → st i = false → Calls Tryd.prog 54 #[.int .i64 (i : Int), .int .i64 (k : Int), .pointer (some ps), .pointer (some pf)] W fun e w' => e = .returned (.bool (ft i k)) ∧ Below W.heap.size W w') :
    Calls Tryd.prog 38 #[.int .i64 (n : Int), .int .i64 (m : Int), .func (.func 53) #[] #[.pointer (some ps)], .func (.func 54) #[] #[.pointer (some ps), .pointer (some pf)]] w fun e w' => (∃ b, e = .returned (.bool b) ∧ (b = true ↔ Fit n m st ft 0 0)) ∧ Below w.heap.size w w' := by
  have HS := Aside0.mk hst
  have HF := Aside0.mk hft
  have HN := Aside0.mk hn
  have HM := Aside0.mk hm
  clear hst hft hn hm
  go_enter Tryd.func38, Tryd.ntmps38
  go_wp2_with fail
  go_loopg [9, 10, 11, 12] (wildM n m (-1) 0 0) (fun kq v9 v10 v11 v12 w' => ∃ (i last from_ k : Int), v9 = .int .i64 i ∧ v10 = .int .i64 last ∧ v11 = .int .i64 from_ ∧ v12 = .int .i64 k ∧ Aside0 (At n m st ft i last from_ k) ∧ Aside0 (wildM n m last from_ k ≤ kq) ∧ Aside0 (Below w.heap.size w w'))
  case atStart => exact ⟨0, -1, 0, 0, rfl, rfl, rfl, rfl, ⟨at_start⟩, ⟨Nat.le_refl _⟩, ⟨Below.refl _ _⟩⟩
  case round =>
    obtain ⟨i, last, from_, k, rfl, rfl, rfl, rfl, HA, HK, HB⟩ := hrel
    obtain ⟨i, rfl⟩ := Int.eq_ofNat_of_zero_le HA.out.i0
    obtain ⟨k, rfl⟩ := Int.eq_ofNat_of_zero_le HA.out.k0
    by_cases hk : (k : Int) < (m : Int)
    · have go : i < n ∧ st i = true ∨ i < n ∧ st i = false ∧ ft i k = true ∨ (i < n ∧ st i = false ∧ ft i k = false ∨ ¬ i < n) := by
        by_cases h1 : i < n
        · cases h2 : st i
          · cases h3 : ft i k
            · exact .inr (.inr (.inl ⟨h1, rfl, rfl⟩))
            · exact .inr (.inl ⟨h1, rfl, rfl⟩)
          · exact .inl ⟨h1, rfl⟩
        · exact .inr (.inr (.inr h1))
      rcases go with ⟨hi, hs⟩ | ⟨hi, hs, hf⟩ | hno
      · have hi' : (i : Int) < (n : Int) := by omega
        have HI := Aside0.mk hi
        clear hi
        go_wp2_with (go_at_call 53; refine (HS.out _ i HB.out HI.out).mono ?_; rintro e w2 ⟨rfl, hb2⟩; have HB2 := Aside0.mk (below_step HB.out hb2); clear hb2)
        go_roundg (wildM n m (i : Int) (k : Int) (k : Int))
        case measure =>
          refine Nat.lt_of_lt_of_le ?_ HK.out
          have h1 := HA.out.li
          have h2 := HI.out
          exact lexM m _ _ _ _ _ _ (by omega) (by omega) (.inl (by omega))
        case rel => exact ⟨(i : Int) + 1, i, k, k, by rw [w64 (by omega) (by have := HN.out; omega)], rfl, rfl, rfl, ⟨at_star HA.out (by have := HI.out; omega) (by simpa using hs)⟩, ⟨Nat.le_refl _⟩, HB2⟩
      · have hi' : (i : Int) < (n : Int) := by omega
        have HI := Aside0.mk hi
        clear hi
        go_wp2_with (first | (go_at_call 53; refine (HS.out _ i HB.out HI.out).mono ?_; rintro e w2 ⟨rfl, hb2⟩; have HB2 := Aside0.mk (below_step HB.out hb2); clear hb2) | (go_at_call 54; refine (HF.out _ i k HB2.out HI.out (by omega) (by assumption)).mono ?_; rintro e w3 ⟨rfl, hb3⟩; have HB3 := Aside0.mk (below_step HB2.out hb3); clear hb3))
        go_roundg (wildM n m last from_ ((k : Int) + 1))
        case measure =>
          refine Nat.lt_of_lt_of_le ?_ HK.out
          have h1 := HA.out.f0
          exact lexM m _ _ _ _ _ _ (by omega) (by omega) (.inr ⟨rfl, .inr ⟨rfl, by omega⟩⟩)
        case rel => exact ⟨(i : Int) + 1, last, from_, (k : Int) + 1, by rw [w64 (by omega) (by have := HN.out; omega)], rfl, rfl, by rw [w64 (by omega) (by have := HM.out; omega)], ⟨at_one HA.out (by have := HI.out; omega) hk (by simpa using hs) (by simpa using hf)⟩, ⟨Nat.le_refl _⟩, HB3⟩
      · have hmiss : (i : Int) < n → st (i : Int).toNat = false ∧ ft (i : Int).toNat (k : Int).toNat = false := fun h => by
          rcases hno with ⟨_, h1, h2⟩ | h1
          · simpa using ⟨h1, h2⟩
          · omega
        have HMI := Aside0.mk hmiss
        clear hmiss
        by_cases hl : 0 ≤ last
        · have HL := Aside0.mk hl
          rcases hno with ⟨hi, hs, hf⟩ | hi
          · have hi' : (i : Int) < (n : Int) := by omega
            have HI := Aside0.mk hi
            clear hi
            go_wp2_with (first | (go_at_call 53; refine (HS.out _ i HB.out HI.out).mono ?_; rintro e w2 ⟨rfl, hb2⟩; have HB2 := Aside0.mk (below_step HB.out hb2); clear hb2) | (go_at_call 54; refine (HF.out _ i k HB2.out HI.out (by omega) (by assumption)).mono ?_; rintro e w3 ⟨rfl, hb3⟩; have HB3 := Aside0.mk (below_step HB2.out hb3); clear hb3))
            go_roundg (wildM n m last (from_ + 1) (from_ + 1))
            case measure => 
              refine Nat.lt_of_lt_of_le ?_ HK.out
              have h1 := HA.out.f0
              have h2 := HA.out.fk HL.out
              have h3 := HA.out.li
              exact lexM m _ _ _ _ _ _ (by omega) (by omega) (.inr ⟨rfl, .inl (by omega)⟩)
            case rel => exact ⟨last + 1, last, from_ + 1, from_ + 1, by (have h1 := HA.out.li; have h3 := HA.out.iN; rw [w64 (by omega) (by have := HN.out; omega)]), rfl, by (have h1 := HA.out.f0; have h2 := HA.out.fk HL.out; have h3 := HA.out.li; rw [w64 (by omega) (by have := HM.out; omega)]), by (have h1 := HA.out.f0; have h2 := HA.out.fk HL.out; have h3 := HA.out.li; rw [w64 (by omega) (by have := HM.out; omega)]), ⟨at_again HA.out (by omega) HMI.out HL.out⟩, ⟨Nat.le_refl _⟩, HB3⟩
          · have hi' : ¬ (i : Int) < (n : Int) := by omega
            clear hi
            go_wp2_with fail
            go_roundg (wildM n m last (from_ + 1) (from_ + 1))
            case measure => 
              refine Nat.lt_of_lt_of_le ?_ HK.out
              have h1 := HA.out.f0
              have h2 := HA.out.fk HL.out
              have h3 := HA.out.li
              exact lexM m _ _ _ _ _ _ (by omega) (by omega) (.inr ⟨rfl, .inl (by omega)⟩)
            case rel => exact ⟨last + 1, last, from_ + 1, from_ + 1, by (have h1 := HA.out.li; have h3 := HA.out.iN; rw [w64 (by omega) (by have := HN.out; omega)]), rfl, by (have h1 := HA.out.f0; have h2 := HA.out.fk HL.out; have h3 := HA.out.li; rw [w64 (by omega) (by have := HM.out; omega)]), by (have h1 := HA.out.f0; have h2 := HA.out.fk HL.out; have h3 := HA.out.li; rw [w64 (by omega) (by have := HM.out; omega)]), ⟨at_again HA.out (by omega) HMI.out HL.out⟩, ⟨Nat.le_refl _⟩, HB⟩
        · have hnf := Aside0.mk (at_none HA.out (by omega) HMI.out (by omega))
          rcases hno with ⟨hi, hs, hf⟩ | hi
          · have hi' : (i : Int) < (n : Int) := by omega
            have HI := Aside0.mk hi
            clear hi
            go_wp2_with (first | (go_at_call 53; refine (HS.out _ i HB.out HI.out).mono ?_; rintro e w2 ⟨rfl, hb2⟩; have HB2 := Aside0.mk (below_step HB.out hb2); clear hb2) | (go_at_call 54; refine (HF.out _ i k HB2.out HI.out (by omega) (by assumption)).mono ?_; rintro e w3 ⟨rfl, hb3⟩; have HB3 := Aside0.mk (below_step HB2.out hb3); clear hb3))
            go_ret
            first | exact ⟨⟨false, rfl, by simp [hnf.out]⟩, HB3.out⟩ | exact ⟨.inl ⟨rfl, hnf.out⟩, HB3.out⟩
          · have hi' : ¬ (i : Int) < (n : Int) := by omega
            clear hi
            go_wp2_with fail
            go_ret
            first | exact ⟨⟨false, rfl, by simp [hnf.out]⟩, HB.out⟩ | exact ⟨.inl ⟨rfl, hnf.out⟩, HB.out⟩
    · have hkm : k = m := by have := HA.out.kM; omega
      subst hkm
      have HE := Aside0.mk (at_end HA.out)
      have HIN := Aside0.mk HA.out.iN
      clear HA HK
      go_wp2_with fail
      go_loopg [9] (n - i) (fun kq v9 w' => ∃ j : Nat, v9 = .int .i64 (j : Int) ∧ Aside0 (i ≤ j ∧ j ≤ n ∧ kq = n - j) ∧ Aside0 (∀ q : Nat, i ≤ q → q < j → st q = true) ∧ Aside0 (Below w.heap.size w w'))
      case atStart => exact ⟨i, rfl, ⟨Nat.le_refl _, by have := HIN.out; omega, rfl⟩, ⟨fun q h1 h2 => by omega⟩, HB⟩
      case round =>
        obtain ⟨j, rfl, HJ, HQ, HB2⟩ := hrel
        by_cases hj : j < n
        · have hj' : (j : Int) < (n : Int) := by omega
          have HI := Aside0.mk hj
          clear hj
          by_cases hs : st j = true
          · go_wp2_with (go_at_call 53; refine (HS.out _ j HB2.out HI.out).mono ?_; rintro e w2 ⟨rfl, hb2⟩; have HB3 := Aside0.mk (below_step HB2.out hb2); clear hb2)
            go_roundg (gk - 1)
            case measure => have := HJ.out; have := HI.out; omega
            case rel => exact ⟨j + 1, by rw [w64 (by omega) (by have := HN.out; omega)]; rfl, ⟨by have := HJ.out; omega, HI.out, by have := HJ.out; omega⟩, ⟨fun q h1 h2 => by
              by_cases e : q = j
              · rw [e]; exact hs
              · exact HQ.out q h1 (by omega)⟩, HB3⟩
          · have hs2 : st j = false := by simpa using hs
            have hnf := Aside0.mk (show ¬ Fit n k st ft 0 0 from fun h => by
              have := HE.out.1 h j (by have := HJ.out; omega) HI.out
              rw [hs2] at this; cases this)
            clear hs
            have hne : ((j : Int) == (n : Int)) = false := beq_eq_false_iff_ne.mpr (by have := HI.out; omega)
            go_wp2_with (go_at_call 53; refine (HS.out _ j HB2.out HI.out).mono ?_; rintro e w2 ⟨rfl, hb2⟩; have HB3 := Aside0.mk (below_step HB2.out hb2); clear hb2)
            go_ret
            first | exact ⟨⟨false, rfl, by simp [hnf.out]⟩, HB3.out⟩ | exact ⟨.inl ⟨rfl, hnf.out⟩, HB3.out⟩
        · have hjn : j = n := by have := HJ.out; omega
          subst hjn
          have hf := Aside0.mk (show Fit j k st ft 0 0 from HE.out.2 (fun q h1 h2 => HQ.out q (by omega) h2))
          clear hj
          go_wp2_with fail
          go_ret
          first | exact ⟨⟨true, rfl, by simp [hf.out]⟩, HB2.out⟩ | exact ⟨.inr ⟨rfl, hf.out⟩, HB2.out⟩
/-- 'Fit', decided. -/
def fitB (n m : Nat) (st : Nat → Bool) (ft : Nat → Nat → Bool) : Nat → Nat → Nat → Bool
  | 0, i, k => i == n && k == m
  | f + 1, i, k => (i == n && k == m) || (decide (i < n) && st i && decide (k ≤ m) && fitB n m st ft f (i + 1) k) || (decide (i < n) && st i && decide (k < m) && fitB n m st ft f i (k + 1)) || (decide (i < n) && !st i && decide (k < m) && ft i k && fitB n m st ft f (i + 1) (k + 1))
theorem fitB_gm {n m : Nat} {st : Nat → Bool} {ft : Nat → Nat → Bool} : ∀ f i k, fitB n m st ft f i k = true ↔ GM n m st ft f i k
  | 0, i, k => by simp [fitB, GM]
  | f + 1, i, k => by
    rw [fitB, GM]
    simp only [Bool.or_eq_true, Bool.and_eq_true, beq_iff_eq, decide_eq_true_eq, Bool.not_eq_true', fitB_gm f]
    constructor
    · rintro (((h | h) | h) | h)
      · exact .inl h
      · exact .inr (.inl ⟨h.1.1.1, h.1.1.2, h.1.2, h.2⟩)
      · exact .inr (.inr (.inl ⟨h.1.1.1, h.1.1.2, h.1.2, h.2⟩))
      · exact .inr (.inr (.inr ⟨h.1.1.1.1, h.1.1.1.2, h.1.1.2, h.1.2, h.2⟩))
    · rintro (h | h | h | h)
      · exact .inl (.inl (.inl h))
      · exact .inl (.inl (.inr ⟨⟨⟨h.1, h.2.1⟩, h.2.2.1⟩, h.2.2.2⟩))
      · exact .inl (.inr ⟨⟨⟨h.1, h.2.1⟩, h.2.2.1⟩, h.2.2.2⟩)
      · exact .inr ⟨⟨⟨⟨h.1, h.2.1⟩, h.2.2.1⟩, h.2.2.2.1⟩, h.2.2.2.2⟩
theorem gm_cap {n m : Nat} {st : Nat → Bool} {ft : Nat → Nat → Bool} : ∀ f g i k, GM n m st ft f i k → (n - i) + (m - k) ≤ g → GM n m st ft g i k
  | 0, 0, i, k, h, _ => h
  | 0, g + 1, i, k, h, _ => .inl h
  | f + 1, 0, i, k, h, hg => by
    rcases h with h | h | h | h
    · exact h
    · omega
    · omega
    · omega
  | f + 1, g + 1, i, k, h, hg => by
    rcases h with h | h | h | h
    · exact .inl h
    · exact .inr (.inl ⟨h.1, h.2.1, h.2.2.1, gm_cap f g _ _ h.2.2.2 (by omega)⟩)
    · exact .inr (.inr (.inl ⟨h.1, h.2.1, h.2.2.1, gm_cap f g _ _ h.2.2.2 (by omega)⟩))
    · exact .inr (.inr (.inr ⟨h.1, h.2.1, h.2.2.1, h.2.2.2.1, gm_cap f g _ _ h.2.2.2.2 (by omega)⟩))
theorem fitB_fit {n m : Nat} {st : Nat → Bool} {ft : Nat → Nat → Bool} : fitB n m st ft (n + m) 0 0 = true ↔ Fit n m st ft 0 0 := by
  rw [fitB_gm]
  exact ⟨fun h => ⟨_, h⟩, fun ⟨f, h⟩ => gm_cap f _ _ _ h (by omega)⟩
/-- Two functions that agree on what is asked. -/
theorem gm_congr {n m : Nat} {st st' : Nat → Bool} {ft ft' : Nat → Nat → Bool} (hs : ∀ i, i < n → st i = st' i) (hf : ∀ i k, i < n → k < m → st i = false → ft i k = ft' i k) : ∀ f i k, GM n m st ft f i k → GM n m st' ft' f i k
  | 0, _, _, h => h
  | f + 1, i, k, h => by
    rcases h with h | h | h | h
    · exact .inl h
    · exact .inr (.inl ⟨h.1, (hs i h.1).symm.trans h.2.1, h.2.2.1, gm_congr hs hf f _ _ h.2.2.2⟩)
    · exact .inr (.inr (.inl ⟨h.1, (hs i h.1).symm.trans h.2.1, h.2.2.1, gm_congr hs hf f _ _ h.2.2.2⟩))
    · exact .inr (.inr (.inr ⟨h.1, (hs i h.1).symm.trans h.2.1, h.2.2.1, (hf i k h.1 h.2.2.1 h.2.1).symm.trans h.2.2.2.1, gm_congr hs hf f _ _ h.2.2.2.2⟩))
set_option maxRecDepth 100000 in
theorem part1_calls (l : List ByteArray) (A : Option Addr) (c B : Nat) (W : World) (i : Nat) (hC : Kd.C Kd.string W A l.length l) (hB : W.cell? ⟨B, 0, none⟩ = some (.slice A l.length c)) (hi : i < l.length) :
    Calls Tryd.prog 53 #[.int .i64 (i : Int), .pointer (some ⟨B, 0, none⟩)] W fun e w' => e = .returned (.bool ((rdOf ByteArray.empty l (i : Int)).toList == [42])) ∧ Below W.heap.size W w' := by
  have q0 : (0 : Int) ≤ (i : Int) := by omega
  have q1 : (i : Int) < (l.length : Int) := by omega
  obtain ⟨ad, eA, hc⟩ := Kd.at_string hC (i : Int) q0 q1
  simp only [Int.toNat_natCast] at hc
  subst eA
  obtain ⟨s, hs⟩ : ∃ s, s = rdOf ByteArray.empty l (i : Int) := ⟨_, rfl⟩
  rw [← hs] at hc ⊢
  clear hs hi hC
  go_enter Tryd.func53, Tryd.ntmps53
  go_wp2
  go_ret
  exact ⟨by first | rfl | (simp; done), Below.refl _ _⟩

/-- It leaves the place of a string. -/
def cellw (u : Value) : CalmVal := ⟨fun x w => ∃ ad : Addr, x = .pointer (some ad) ∧ ad.block < w.heap.size ∧ w.cell? ad = some u, fun _v _w _w' hb ⟨ad, h1, h2, h3⟩ => ⟨ad, h1, Nat.lt_of_lt_of_le h2 hb.size, (hb.cell h2).trans h3⟩⟩
theorem cellw_lt {w : World} {ad : Addr} {u : Value} (h : w.cell? ad = some u) : ad.block < w.heap.size := by
  unfold World.cell? at h
  cases hb : w.heap[ad.block]? with
  | none => rw [hb] at h; simp at h
  | some o => exact (Array.getElem?_eq_some_iff.1 hb).1
set_option maxHeartbeats 4000000 in
set_option maxRecDepth 100000 in
theorem part2_calls (l : List ByteArray) (s : ByteArray) (A : Option Addr) (c B B2 : Nat) (W : World) (i k : Nat) (r : Bool) (hC : Kd.C Kd.string W A l.length l) (hB : W.cell? ⟨B, 0, none⟩ = some (.slice A l.length c)) (hB2 : W.cell? ⟨B2, 0, none⟩ = some (.string s)) (hi : i < l.length) (hk : k < s.size) (hr : glob_sign.f (rdOf ByteArray.empty l (i : Int)) (bt s (k : Int)) = some r) :
    Calls Tryd.prog 54 #[.int .i64 (i : Int), .int .i64 (k : Int), .pointer (some ⟨B, 0, none⟩), .pointer (some ⟨B2, 0, none⟩)] W fun e w' => e = .returned (.bool r) ∧ Below W.heap.size W w' := by
  have q0 : (0 : Int) ≤ (i : Int) := by omega
  have q1 : (i : Int) < (l.length : Int) := by omega
  have q2 : (0 : Int) ≤ (k : Int) := by omega
  have q3 : (k : Int) < (s.size : Int) := by omega
  obtain ⟨ad, eA, hc⟩ := Kd.at_string hC (i : Int) q0 q1
  simp only [Int.toNat_natCast] at hc
  subst eA
  have HR := Aside0.mk hr
  clear hi hC hr hk
  obtain ⟨x, hx⟩ : ∃ x, x = rdOf ByteArray.empty l (i : Int) := ⟨_, rfl⟩
  replace hr := HR.out
  clear HR
  rw [← hx] at hc hr
  have HR := Aside0.mk hr
  have HX := Aside0.mk hc
  have HB := Aside0.mk hB
  have HB2 := Aside0.mk hB2
  have hbt := bt_at s (k : Int)
  simp only [Int.toNat_natCast] at hbt
  have HBT := Aside0.mk hbt
  clear hx hr hc hB hB2 hbt
  go_enter Tryd.func54, Tryd.ntmps54
  go_upto_region 1 with fail
  have hL : ∀ w', Below W.heap.size W w' → ∀ a u, W.cell? a = some u → w'.cell? a = some u := fun w' hb a u h => (hb.cell (cellw_lt h)).trans h
  refine region_calm 8 [eqv (.slice (some ad) l.length c), eqv (.int .i64 (i : Int)), cellw (.string x), eqv (.string x), eqv (.string s), eqv (.int .i64 (k : Int)), eqv (.int .u8 (bt s (k : Int))), eqv (.bool r)] (by kernel_rfl) rfl (by kernel_rfl) ?_ (fun vals => ?_) ?_ ?_
  rotate_left
  · simp only [List.take_succ_cons, List.take_zero, putsFrom, Act.put, List.setIfInBounds_toArray, List.set_cons_zero, List.set_cons_succ]
    rfl
  · show calmAll _ _ _ _ _ _ [_, _, _, _, _, _, _, _] 0
    refine ⟨?_, ?_, ?_, ?_, ?_, ?_, ?_, ?_, trivial⟩
    · intro vals w' hb hv
      have s1 := hL w' hb _ _ HB.out
      clear hv
      go_wp2
      exact ⟨Below.refl _ _, rfl, rfl⟩
    · intro vals w' hb hv
      clear hv
      go_wp2
      exact ⟨Below.refl _ _, rfl, rfl⟩
    · intro vals w' hb hv
      have e0 : vals 0 = .slice (some ad) l.length c := hv 0 (by decide) (by kernel_rfl)
      have e1 : vals 1 = .int .i64 (i : Int) := hv 1 (by decide) (by kernel_rfl)
      have hcell := hL w' hb _ _ HX.out
      have hlt := cellw_lt hcell
      clear hv
      go_wp2
      exact ⟨Below.refl _ _, rfl, _, rfl, hlt, hcell⟩
    · intro vals w' hb hv
      obtain ⟨a9, e0, hlt9, hcell⟩ := hv 2 (by decide) (by kernel_rfl)
      clear hv
      go_wp2
      exact ⟨Below.refl _ _, rfl, rfl⟩
    · intro vals w' hb hv
      have s1 := hL w' hb _ _ HB2.out
      clear hv
      go_wp2
      exact ⟨Below.refl _ _, rfl, rfl⟩
    · intro vals w' hb hv
      clear hv
      go_wp2
      exact ⟨Below.refl _ _, rfl, rfl⟩
    · intro vals w' hb hv
      have e0 : vals 4 = .string s := hv 4 (by decide) (by kernel_rfl)
      have e1 : vals 5 = .int .i64 (k : Int) := hv 5 (by decide) (by kernel_rfl)
      clear hv
      go_wp2
      exact ⟨Below.refl _ _, rfl, by first | exact congrArg (Value.int .u8) (HBT.out _) | exact congrArg (Value.int .u8) (HBT.out (by omega))⟩
    · intro vals w' hb hv
      have e0 : vals 3 = .string x := hv 3 (by decide) (by kernel_rfl)
      have e1 : vals 6 = .int .u8 (bt s (k : Int)) := hv 6 (by decide) (by kernel_rfl)
      clear hv
      go_wp2_with fail
      refine (glob_sign.calls x (bt s (k : Int)) r _ HR.out).mono ?_
      rintro e w1 ⟨rfl, hb1⟩
      go_wp2
      exact ⟨hb1.below, rfl, rfl⟩
  intro vals w1 hb1 hend
  have e7 : vals 7 = .bool r := hend.2.2.2.2.2.2.2.1
  have HB1 := Aside0.mk hb1
  clear hend hL hb1
  go_wp2_with fail
  go_ret
  exact ⟨by first | rfl | (rw [e7]; rfl) | simp [e7], HB1.out⟩
def partSt (l : List ByteArray) (i : Nat) : Bool := (rdOf ByteArray.empty l (i : Int)).toList == [42]
def partFt (l : List ByteArray) (s : ByteArray) (i k : Nat) : Bool := (glob_sign.f (rdOf ByteArray.empty l (i : Int)) (bt s (k : Int))).getD false
def glob_part.f (a0 a1 : ByteArray) : Option Bool := (glob_split.f (3 * a0.size + 10) a0).bind fun l => if l.length ≤ 1000000000 ∧ a1.size ≤ 1000000000 ∧ ((List.range l.length).all fun i => (List.range a1.size).all fun k => partSt l i || (glob_sign.f (rdOf ByteArray.empty l (i : Int)) (bt a1 (k : Int))).isSome) = true then some (fitB l.length a1.size (partSt l) (partFt l a1) (l.length + a1.size) 0 0) else none
theorem opt_getD {α : Type} {o : Option α} {d : α} (h : o.isSome = true) : o = some (o.getD d) := by cases o with | none => cases h | some x => rfl
set_option maxHeartbeats 4000000 in
set_option maxRecDepth 100000 in
theorem glob_part.calls (a0 a1 : ByteArray) (r : Bool) (w : World) (h : glob_part.f a0 a1 = some r) :
    Calls Tryd.prog 41 #[.string a0, .string a1] w fun e w' => e = .returned (.bool r) ∧ Below w.heap.size w w' := by
  unfold glob_part.f at h
  rw [Option.bind_eq_some_iff] at h
  obtain ⟨l, hs, h⟩ := h
  split at h
  case isFalse => cases h
  rename_i hl
  injection h with h
  obtain ⟨hl1, hl2, hl3⟩ := hl
  have HSP := Aside0.mk hs
  have HL1 := Aside0.mk hl1
  have HL2 := Aside0.mk hl2
  have HAL := Aside0.mk (show ∀ i k, i < l.length → k < a1.size → partSt l i = false → glob_sign.f (rdOf ByteArray.empty l (i : Int)) (bt a1 (k : Int)) = some (partFt l a1 i k) from fun i k hi hk hst => by
    have h1 := List.all_eq_true.1 (List.all_eq_true.1 hl3 i (List.mem_range.2 hi)) k (List.mem_range.2 hk)
    rw [hst, Bool.false_or] at h1
    exact opt_getD h1)
  have HR := Aside0.mk h
  have hw1 := Aside0.mk (below_alloc (Below.refl w.heap.size w) (.cells #[.string a1] 9))
  have hb1 := Aside0.mk (heap_alloc_new w (.cells #[.string a1] 9))
  clear h hs hl1 hl2 hl3
  go_enter Tryd.func41, Tryd.ntmps41
  go_wp2_with (first | (go_at_call 52; refine (glob_split.calls _ _ l _ HSP.out).mono ?_; rintro e w2 ⟨v, rfl, ho, hb2⟩; obtain ⟨A, c, rfl⟩ := Kd.R_slice ho; have HC2 := Aside0.mk (Kd.R_reads' ho).2.2; have HW2 := Aside0.mk (below_step hw1.out hb2); have HB2 := Aside0.mk (blk_below hb1.out hb2); clear ho hb2) | ((with_reducible refine gate_dst (N := 5) rfl ?_); refine box_event ?hg (N := 5) ?hd (cs := #[.slice none 0 0]) (t := 44) ?hr ?_; (case hd => rfl); (case hg => rfl); (case hr => first | (go_simp; done) | (go_simp; rfl)); intro g5 hg5 w3 hbox hb3; have HB3 := Aside0.mk hb3; have BX := Aside0.mk hbox; have HG5 := Aside0.mk (Nat.le_of_eq hg5.symm); clear hg5 hbox hb3) | ((with_reducible refine gate_store (x := .tmp 5) (y := .tmp 7) rfl ?_); refine ev_store_one rfl rfl 44 (.tmp 5) (.tmp 7) rfl g5 0 (.slice A l.length c) _ #[.slice A l.length c] 44 rfl rfl BX.out (by show 0 < 1; decide) (by kernel_rfl) rfl rfl (fun w4 ht4 b4 => ?_); have HB4 := Aside0.mk (ht4.below HB3.out HG5.out); have c5 : w4.cell? ⟨g5, 0, none⟩ = some (.slice A l.length c) := (blk_cell b4 0).trans rfl; have c3 : w4.cell? ⟨w.heap.size, 0, none⟩ = some (.string a1) := (blk_cell (blk_below HB2.out HB4.out) 0).trans rfl; have BN := Aside0.mk b4; clear ht4 b4) | (go_at_call 38; refine (wildB l.length a1.size HL1.out HL2.out (partSt l) (partFt l a1) ⟨g5, 0, none⟩ ⟨w.heap.size, 0, none⟩ _ (fun W i hb hi => part1_calls l A c g5 W i (Kd.C_below HC2.out (below_step HB4.out hb)) ((blk_cell (blk_below BN.out hb) 0).trans rfl) hi) (fun W i k hb hi hk hst => part2_calls l a1 A c g5 w.heap.size W i k _ (Kd.C_below HC2.out (below_step HB4.out hb)) ((blk_cell (blk_below BN.out hb) 0).trans rfl) ((blk_cell (blk_below HB2.out (below_step HB4.out hb)) 0).trans rfl) hi hk (HAL.out i k hi hk hst))).mono ?_; rintro e w6 ⟨⟨b, rfl, hb⟩, hb6⟩; have HBB := Aside0.mk hb; have HW6 := Aside0.mk (below_step (below_step HW2.out HB4.out) hb6); clear hb hb6))
  go_ret
  refine ⟨?_, HW6.out⟩
  have : b = r := by
    rw [← HR.out, Bool.eq_iff_iff, HBB.out, fitB_fit]
  rw [this]
  rfl

/-! ### glob_parts: function 20 -/
set_option maxHeartbeats 4000000 in
set_option maxRecDepth 100000 in
theorem wildA (n m : Nat) (hn : n ≤ 1000000000) (hm : m ≤ 1000000000) (st : Nat → Bool) (ft : Nat → Nat → Bool) (ps pf : Addr) (w : World)
    (hst : ∀ (W : World) (i : Nat), Below w.heap.size w W → i < n → Calls Tryd.prog 39 #[.int .i64 (i : Int), .pointer (some ps)] W fun e w' => e = .returned (.bool (st i)) ∧ Below W.heap.size W w')
    (hft : ∀ (W : World) (i k : Nat), Below w.heap.size w W → i < n → k < m → st i = false → Calls Tryd.prog 40 #[.int .i64 (i : Int), .int .i64 (k : Int), .pointer (some ps), .pointer (some pf)] W fun e w' => e = .returned (.bool (ft i k)) ∧ Below W.heap.size W w') :
    Calls Tryd.prog 38 #[.int .i64 (n : Int), .int .i64 (m : Int), .func (.func 39) #[] #[.pointer (some ps)], .func (.func 40) #[] #[.pointer (some ps), .pointer (some pf)]] w fun e w' => (∃ b, e = .returned (.bool b) ∧ (b = true ↔ Fit n m st ft 0 0)) ∧ Below w.heap.size w w' := by
  have HS := Aside0.mk hst
  have HF := Aside0.mk hft
  have HN := Aside0.mk hn
  have HM := Aside0.mk hm
  clear hst hft hn hm
  go_enter Tryd.func38, Tryd.ntmps38
  go_wp2_with fail
  go_loopg [9, 10, 11, 12] (wildM n m (-1) 0 0) (fun kq v9 v10 v11 v12 w' => ∃ (i last from_ k : Int), v9 = .int .i64 i ∧ v10 = .int .i64 last ∧ v11 = .int .i64 from_ ∧ v12 = .int .i64 k ∧ Aside0 (At n m st ft i last from_ k) ∧ Aside0 (wildM n m last from_ k ≤ kq) ∧ Aside0 (Below w.heap.size w w'))
  case atStart => exact ⟨0, -1, 0, 0, rfl, rfl, rfl, rfl, ⟨at_start⟩, ⟨Nat.le_refl _⟩, ⟨Below.refl _ _⟩⟩
  case round =>
    obtain ⟨i, last, from_, k, rfl, rfl, rfl, rfl, HA, HK, HB⟩ := hrel
    obtain ⟨i, rfl⟩ := Int.eq_ofNat_of_zero_le HA.out.i0
    obtain ⟨k, rfl⟩ := Int.eq_ofNat_of_zero_le HA.out.k0
    by_cases hk : (k : Int) < (m : Int)
    · have go : i < n ∧ st i = true ∨ i < n ∧ st i = false ∧ ft i k = true ∨ (i < n ∧ st i = false ∧ ft i k = false ∨ ¬ i < n) := by
        by_cases h1 : i < n
        · cases h2 : st i
          · cases h3 : ft i k
            · exact .inr (.inr (.inl ⟨h1, rfl, rfl⟩))
            · exact .inr (.inl ⟨h1, rfl, rfl⟩)
          · exact .inl ⟨h1, rfl⟩
        · exact .inr (.inr (.inr h1))
      rcases go with ⟨hi, hs⟩ | ⟨hi, hs, hf⟩ | hno
      · have hi' : (i : Int) < (n : Int) := by omega
        have HI := Aside0.mk hi
        clear hi
        go_wp2_with (go_at_call 39; refine (HS.out _ i HB.out HI.out).mono ?_; rintro e w2 ⟨rfl, hb2⟩; have HB2 := Aside0.mk (below_step HB.out hb2); clear hb2)
        go_roundg (wildM n m (i : Int) (k : Int) (k : Int))
        case measure =>
          refine Nat.lt_of_lt_of_le ?_ HK.out
          have h1 := HA.out.li
          have h2 := HI.out
          exact lexM m _ _ _ _ _ _ (by omega) (by omega) (.inl (by omega))
        case rel => exact ⟨(i : Int) + 1, i, k, k, by rw [w64 (by omega) (by have := HN.out; omega)], rfl, rfl, rfl, ⟨at_star HA.out (by have := HI.out; omega) (by simpa using hs)⟩, ⟨Nat.le_refl _⟩, HB2⟩
      · have hi' : (i : Int) < (n : Int) := by omega
        have HI := Aside0.mk hi
        clear hi
        go_wp2_with (first | (go_at_call 39; refine (HS.out _ i HB.out HI.out).mono ?_; rintro e w2 ⟨rfl, hb2⟩; have HB2 := Aside0.mk (below_step HB.out hb2); clear hb2) | (go_at_call 40; refine (HF.out _ i k HB2.out HI.out (by omega) (by assumption)).mono ?_; rintro e w3 ⟨rfl, hb3⟩; have HB3 := Aside0.mk (below_step HB2.out hb3); clear hb3))
        go_roundg (wildM n m last from_ ((k : Int) + 1))
        case measure =>
          refine Nat.lt_of_lt_of_le ?_ HK.out
          have h1 := HA.out.f0
          exact lexM m _ _ _ _ _ _ (by omega) (by omega) (.inr ⟨rfl, .inr ⟨rfl, by omega⟩⟩)
        case rel => exact ⟨(i : Int) + 1, last, from_, (k : Int) + 1, by rw [w64 (by omega) (by have := HN.out; omega)], rfl, rfl, by rw [w64 (by omega) (by have := HM.out; omega)], ⟨at_one HA.out (by have := HI.out; omega) hk (by simpa using hs) (by simpa using hf)⟩, ⟨Nat.le_refl _⟩, HB3⟩
      · have hmiss : (i : Int) < n → st (i : Int).toNat = false ∧ ft (i : Int).toNat (k : Int).toNat = false := fun h => by
          rcases hno with ⟨_, h1, h2⟩ | h1
          · simpa using ⟨h1, h2⟩
          · omega
        have HMI := Aside0.mk hmiss
        clear hmiss
        by_cases hl : 0 ≤ last
        · have HL := Aside0.mk hl
          rcases hno with ⟨hi, hs, hf⟩ | hi
          · have hi' : (i : Int) < (n : Int) := by omega
            have HI := Aside0.mk hi
            clear hi
            go_wp2_with (first | (go_at_call 39; refine (HS.out _ i HB.out HI.out).mono ?_; rintro e w2 ⟨rfl, hb2⟩; have HB2 := Aside0.mk (below_step HB.out hb2); clear hb2) | (go_at_call 40; refine (HF.out _ i k HB2.out HI.out (by omega) (by assumption)).mono ?_; rintro e w3 ⟨rfl, hb3⟩; have HB3 := Aside0.mk (below_step HB2.out hb3); clear hb3))
            go_roundg (wildM n m last (from_ + 1) (from_ + 1))
            case measure => 
              refine Nat.lt_of_lt_of_le ?_ HK.out
              have h1 := HA.out.f0
              have h2 := HA.out.fk HL.out
              have h3 := HA.out.li
              exact lexM m _ _ _ _ _ _ (by omega) (by omega) (.inr ⟨rfl, .inl (by omega)⟩)
            case rel => exact ⟨last + 1, last, from_ + 1, from_ + 1, by (have h1 := HA.out.li; have h3 := HA.out.iN; rw [w64 (by omega) (by have := HN.out; omega)]), rfl, by (have h1 := HA.out.f0; have h2 := HA.out.fk HL.out; have h3 := HA.out.li; rw [w64 (by omega) (by have := HM.out; omega)]), by (have h1 := HA.out.f0; have h2 := HA.out.fk HL.out; have h3 := HA.out.li; rw [w64 (by omega) (by have := HM.out; omega)]), ⟨at_again HA.out (by omega) HMI.out HL.out⟩, ⟨Nat.le_refl _⟩, HB3⟩
          · have hi' : ¬ (i : Int) < (n : Int) := by omega
            clear hi
            go_wp2_with fail
            go_roundg (wildM n m last (from_ + 1) (from_ + 1))
            case measure => 
              refine Nat.lt_of_lt_of_le ?_ HK.out
              have h1 := HA.out.f0
              have h2 := HA.out.fk HL.out
              have h3 := HA.out.li
              exact lexM m _ _ _ _ _ _ (by omega) (by omega) (.inr ⟨rfl, .inl (by omega)⟩)
            case rel => exact ⟨last + 1, last, from_ + 1, from_ + 1, by (have h1 := HA.out.li; have h3 := HA.out.iN; rw [w64 (by omega) (by have := HN.out; omega)]), rfl, by (have h1 := HA.out.f0; have h2 := HA.out.fk HL.out; have h3 := HA.out.li; rw [w64 (by omega) (by have := HM.out; omega)]), by (have h1 := HA.out.f0; have h2 := HA.out.fk HL.out; have h3 := HA.out.li; rw [w64 (by omega) (by have := HM.out; omega)]), ⟨at_again HA.out (by omega) HMI.out HL.out⟩, ⟨Nat.le_refl _⟩, HB⟩
        · have hnf := Aside0.mk (at_none HA.out (by omega) HMI.out (by omega))
          rcases hno with ⟨hi, hs, hf⟩ | hi
          · have hi' : (i : Int) < (n : Int) := by omega
            have HI := Aside0.mk hi
            clear hi
            go_wp2_with (first | (go_at_call 39; refine (HS.out _ i HB.out HI.out).mono ?_; rintro e w2 ⟨rfl, hb2⟩; have HB2 := Aside0.mk (below_step HB.out hb2); clear hb2) | (go_at_call 40; refine (HF.out _ i k HB2.out HI.out (by omega) (by assumption)).mono ?_; rintro e w3 ⟨rfl, hb3⟩; have HB3 := Aside0.mk (below_step HB2.out hb3); clear hb3))
            go_ret
            first | exact ⟨⟨false, rfl, by simp [hnf.out]⟩, HB3.out⟩ | exact ⟨.inl ⟨rfl, hnf.out⟩, HB3.out⟩
          · have hi' : ¬ (i : Int) < (n : Int) := by omega
            clear hi
            go_wp2_with fail
            go_ret
            first | exact ⟨⟨false, rfl, by simp [hnf.out]⟩, HB.out⟩ | exact ⟨.inl ⟨rfl, hnf.out⟩, HB.out⟩
    · have hkm : k = m := by have := HA.out.kM; omega
      subst hkm
      have HE := Aside0.mk (at_end HA.out)
      have HIN := Aside0.mk HA.out.iN
      clear HA HK
      go_wp2_with fail
      go_loopg [9] (n - i) (fun kq v9 w' => ∃ j : Nat, v9 = .int .i64 (j : Int) ∧ Aside0 (i ≤ j ∧ j ≤ n ∧ kq = n - j) ∧ Aside0 (∀ q : Nat, i ≤ q → q < j → st q = true) ∧ Aside0 (Below w.heap.size w w'))
      case atStart => exact ⟨i, rfl, ⟨Nat.le_refl _, by have := HIN.out; omega, rfl⟩, ⟨fun q h1 h2 => by omega⟩, HB⟩
      case round =>
        obtain ⟨j, rfl, HJ, HQ, HB2⟩ := hrel
        by_cases hj : j < n
        · have hj' : (j : Int) < (n : Int) := by omega
          have HI := Aside0.mk hj
          clear hj
          by_cases hs : st j = true
          · go_wp2_with (go_at_call 39; refine (HS.out _ j HB2.out HI.out).mono ?_; rintro e w2 ⟨rfl, hb2⟩; have HB3 := Aside0.mk (below_step HB2.out hb2); clear hb2)
            go_roundg (gk - 1)
            case measure => have := HJ.out; have := HI.out; omega
            case rel => exact ⟨j + 1, by rw [w64 (by omega) (by have := HN.out; omega)]; rfl, ⟨by have := HJ.out; omega, HI.out, by have := HJ.out; omega⟩, ⟨fun q h1 h2 => by
              by_cases e : q = j
              · rw [e]; exact hs
              · exact HQ.out q h1 (by omega)⟩, HB3⟩
          · have hs2 : st j = false := by simpa using hs
            have hnf := Aside0.mk (show ¬ Fit n k st ft 0 0 from fun h => by
              have := HE.out.1 h j (by have := HJ.out; omega) HI.out
              rw [hs2] at this; cases this)
            clear hs
            have hne : ((j : Int) == (n : Int)) = false := beq_eq_false_iff_ne.mpr (by have := HI.out; omega)
            go_wp2_with (go_at_call 39; refine (HS.out _ j HB2.out HI.out).mono ?_; rintro e w2 ⟨rfl, hb2⟩; have HB3 := Aside0.mk (below_step HB2.out hb2); clear hb2)
            go_ret
            first | exact ⟨⟨false, rfl, by simp [hnf.out]⟩, HB3.out⟩ | exact ⟨.inl ⟨rfl, hnf.out⟩, HB3.out⟩
        · have hjn : j = n := by have := HJ.out; omega
          subst hjn
          have hf := Aside0.mk (show Fit j k st ft 0 0 from HE.out.2 (fun q h1 h2 => HQ.out q (by omega) h2))
          clear hj
          go_wp2_with fail
          go_ret
          first | exact ⟨⟨true, rfl, by simp [hf.out]⟩, HB2.out⟩ | exact ⟨.inr ⟨rfl, hf.out⟩, HB2.out⟩
set_option maxRecDepth 100000 in
theorem parts1_calls (l : List ByteArray) (A : Option Addr) (c B : Nat) (W : World) (i : Nat) (hC : Kd.C Kd.string W A l.length l) (hB : W.cell? ⟨B, 0, none⟩ = some (.slice A l.length c)) (hi : i < l.length) :
    Calls Tryd.prog 39 #[.int .i64 (i : Int), .pointer (some ⟨B, 0, none⟩)] W fun e w' => e = .returned (.bool ((rdOf ByteArray.empty l (i : Int)).toList == [42, 42])) ∧ Below W.heap.size W w' := by
  have q0 : (0 : Int) ≤ (i : Int) := by omega
  have q1 : (i : Int) < (l.length : Int) := by omega
  obtain ⟨ad, eA, hc⟩ := Kd.at_string hC (i : Int) q0 q1
  simp only [Int.toNat_natCast] at hc
  subst eA
  obtain ⟨s, hs⟩ : ∃ s, s = rdOf ByteArray.empty l (i : Int) := ⟨_, rfl⟩
  rw [← hs] at hc ⊢
  clear hs hi hC
  go_enter Tryd.func39, Tryd.ntmps39
  go_wp2
  go_ret
  exact ⟨by first | rfl | (simp; done), Below.refl _ _⟩
def partsSt (l : List ByteArray) (i : Nat) : Bool := (rdOf ByteArray.empty l (i : Int)).toList == [42, 42]
def partsFt (l s : List ByteArray) (i k : Nat) : Bool := (glob_part.f (rdOf ByteArray.empty l (i : Int)) (rdOf ByteArray.empty s (k : Int))).getD false
def glob_parts.f (l0 l1 : List ByteArray) : Option Bool := if l0.length ≤ 1000000000 ∧ l1.length ≤ 1000000000 ∧ ((List.range l0.length).all fun i => (List.range l1.length).all fun k => partsSt l0 i || (glob_part.f (rdOf ByteArray.empty l0 (i : Int)) (rdOf ByteArray.empty l1 (k : Int))).isSome) = true then some (fitB l0.length l1.length (partsSt l0) (partsFt l0 l1) (l0.length + l1.length) 0 0) else none
set_option maxHeartbeats 4000000 in
set_option maxRecDepth 100000 in
theorem parts2_calls (l s : List ByteArray) (A A2 : Option Addr) (c c2 B B2 : Nat) (W : World) (i k : Nat) (r : Bool) (hC : Kd.C Kd.string W A l.length l) (hC2 : Kd.C Kd.string W A2 s.length s) (hB : ∃ t, W.heap[B]? = some (.cells #[.slice A l.length c] t (0, 0))) (hB2 : ∃ t, W.heap[B2]? = some (.cells #[.slice A2 s.length c2] t (0, 0))) (hi : i < l.length) (hk : k < s.length) (hr : glob_part.f (rdOf ByteArray.empty l (i : Int)) (rdOf ByteArray.empty s (k : Int)) = some r) :
    Calls Tryd.prog 40 #[.int .i64 (i : Int), .int .i64 (k : Int), .pointer (some ⟨B, 0, none⟩), .pointer (some ⟨B2, 0, none⟩)] W fun e w' => e = .returned (.bool r) ∧ Below W.heap.size W w' := by
  have q0 : (0 : Int) ≤ (i : Int) := by omega
  have q1 : (i : Int) < (l.length : Int) := by omega
  have q2 : (0 : Int) ≤ (k : Int) := by omega
  have q3 : (k : Int) < (s.length : Int) := by omega
  obtain ⟨ad, eA, hc⟩ := Kd.at_string hC (i : Int) q0 q1
  obtain ⟨ad2, eA2, hc2⟩ := Kd.at_string hC2 (k : Int) q2 q3
  simp only [Int.toNat_natCast] at hc hc2
  subst eA
  subst eA2
  obtain ⟨t, hB⟩ := hB
  obtain ⟨t2, hB2⟩ := hB2
  obtain ⟨x, hx⟩ : ∃ x, x = rdOf ByteArray.empty l (i : Int) := ⟨_, rfl⟩
  obtain ⟨y, hy⟩ : ∃ y, y = rdOf ByteArray.empty s (k : Int) := ⟨_, rfl⟩
  rw [← hx] at hc hr
  rw [← hy] at hc2 hr
  have HR := Aside0.mk hr
  have HX := Aside0.mk hc
  have HY := Aside0.mk hc2
  have HB := Aside0.mk hB
  have HB2 := Aside0.mk hB2
  clear hi hC hC2 hr hk hx hy hc hc2 hB hB2
  go_enter Tryd.func40, Tryd.ntmps40
  go_upto_region 1 with fail
  have hS : ∀ w', Below W.heap.size W w' → w'.cell? ⟨B, 0, none⟩ = some (.slice (some ad) l.length c) ∧ w'.cell? ⟨B2, 0, none⟩ = some (.slice (some ad2) s.length c2) := fun w' hb => ⟨(blk_cell (blk_below HB.out hb) 0).trans rfl, by
    have h := blk_below HB2.out hb
    exact (blk_cell h 0).trans rfl⟩
  have hL : ∀ w', Below W.heap.size W w' → ∀ a u, W.cell? a = some u → w'.cell? a = some u := fun w' hb a u h => (hb.cell (cellw_lt h)).trans h
  refine region_calm 9 [eqv (.slice (some ad) l.length c), eqv (.int .i64 (i : Int)), cellw (.string x), eqv (.string x), eqv (.slice (some ad2) s.length c2), eqv (.int .i64 (k : Int)), cellw (.string y), eqv (.string y), eqv (.bool r)] (by kernel_rfl) rfl (by kernel_rfl) ?_ (fun vals => ?_) ?_ ?_
  rotate_left
  · simp only [List.take_succ_cons, List.take_zero, putsFrom, Act.put, List.setIfInBounds_toArray, List.set_cons_zero, List.set_cons_succ]
    rfl
  · show calmAll _ _ _ _ _ _ [_, _, _, _, _, _, _, _, _] 0
    refine ⟨?_, ?_, ?_, ?_, ?_, ?_, ?_, ?_, ?_, trivial⟩
    · intro vals w' hb hv
      obtain ⟨s1, s2⟩ := hS w' hb
      clear hv
      go_wp2
      exact ⟨Below.refl _ _, rfl, rfl⟩
    · intro vals w' hb hv
      clear hv
      go_wp2
      exact ⟨Below.refl _ _, rfl, rfl⟩
    · intro vals w' hb hv
      have e0 : vals 0 = .slice (some ad) l.length c := hv 0 (by decide) (by kernel_rfl)
      have e1 : vals 1 = .int .i64 (i : Int) := hv 1 (by decide) (by kernel_rfl)
      have hcell := hL w' hb _ _ HX.out
      have hlt := cellw_lt hcell
      clear hv
      go_wp2
      exact ⟨Below.refl _ _, rfl, _, rfl, hlt, hcell⟩
    · intro vals w' hb hv
      obtain ⟨a9, e0, hlt9, hcell⟩ := hv 2 (by decide) (by kernel_rfl)
      clear hv
      go_wp2
      exact ⟨Below.refl _ _, rfl, rfl⟩
    · intro vals w' hb hv
      obtain ⟨s1, s2⟩ := hS w' hb
      clear hv
      go_wp2
      exact ⟨Below.refl _ _, rfl, rfl⟩
    · intro vals w' hb hv
      clear hv
      go_wp2
      exact ⟨Below.refl _ _, rfl, rfl⟩
    · intro vals w' hb hv
      have e0 : vals 4 = .slice (some ad2) s.length c2 := hv 4 (by decide) (by kernel_rfl)
      have e1 : vals 5 = .int .i64 (k : Int) := hv 5 (by decide) (by kernel_rfl)
      have hcell := hL w' hb _ _ HY.out
      have hlt := cellw_lt hcell
      clear hv
      go_wp2
      exact ⟨Below.refl _ _, rfl, _, rfl, hlt, hcell⟩
    · intro vals w' hb hv
      obtain ⟨a9, e0, hlt9, hcell⟩ := hv 6 (by decide) (by kernel_rfl)
      clear hv
      go_wp2
      exact ⟨Below.refl _ _, rfl, rfl⟩
    · intro vals w' hb hv
      have e0 : vals 3 = .string x := hv 3 (by decide) (by kernel_rfl)
      have e1 : vals 7 = .string y := hv 7 (by decide) (by kernel_rfl)
      clear hv
      go_wp2_with fail
      refine (glob_part.calls x y r _ HR.out).mono ?_
      rintro e w1 ⟨rfl, hb1⟩
      go_wp2
      exact ⟨hb1, rfl, rfl⟩
  intro vals w1 hb1 hend
  have e8 : vals 8 = .bool r := hend.2.2.2.2.2.2.2.2.1
  have HB1 := Aside0.mk hb1
  clear hend hS hL hb1
  go_wp2_with fail
  go_ret
  exact ⟨by first | rfl | (rw [e8]; rfl) | simp [e8], HB1.out⟩
set_option maxHeartbeats 4000000 in
set_option maxRecDepth 100000 in
theorem glob_parts.calls (A0 : Option Addr) (c0 : Nat) (l0 : List ByteArray) (A1 : Option Addr) (c1 : Nat) (l1 : List ByteArray) (r : Bool) (w : World) (hr0 : Kd.C Kd.string w A0 l0.length l0) (hc0 : l0.length ≤ c0) (hr1 : Kd.C Kd.string w A1 l1.length l1) (hc1 : l1.length ≤ c1) (h : glob_parts.f l0 l1 = some r) :
    Calls Tryd.prog 20 #[.slice A0 l0.length c0, .slice A1 l1.length c1] w fun e w' => e = .returned (.bool r) ∧ Below w.heap.size w w' := by
  unfold glob_parts.f at h
  split at h
  case isFalse => cases h
  rename_i hl
  injection h with h
  obtain ⟨hl1, hl2, hl3⟩ := hl
  have HL1 := Aside0.mk hl1
  have HL2 := Aside0.mk hl2
  have HAL := Aside0.mk (show ∀ i k, i < l0.length → k < l1.length → partsSt l0 i = false → glob_part.f (rdOf ByteArray.empty l0 (i : Int)) (rdOf ByteArray.empty l1 (k : Int)) = some (partsFt l0 l1 i k) from fun i k hi hk hst => by
    have h1 := List.all_eq_true.1 (List.all_eq_true.1 hl3 i (List.mem_range.2 hi)) k (List.mem_range.2 hk)
    rw [hst, Bool.false_or] at h1
    exact opt_getD h1)
  have HR := Aside0.mk h
  have HC0 := Aside0.mk hr0
  have HC1 := Aside0.mk hr1
  obtain ⟨w2, hw2⟩ : ∃ w2, w2 = ((w.alloc (.cells #[.slice A0 l0.length c0] 44)).alloc (.cells #[.slice A1 l1.length c1] 44)) := ⟨_, rfl⟩
  have HW2 := Aside0.mk (show Below w.heap.size w w2 from by rw [hw2]; exact below_alloc (below_alloc (Below.refl _ _) _) _)
  have HB0 := Aside0.mk (show w2.heap[w.heap.size]? = some (.cells #[.slice A0 l0.length c0] 44 (0, 0)) from by rw [hw2]; exact (Below.heap_alloc _ _ _ (by simp)).trans (heap_alloc_new _ _))
  have HB1 := Aside0.mk (show w2.heap[w.heap.size + 1]? = some (.cells #[.slice A1 l1.length c1] 44 (0, 0)) from by
    rw [hw2]
    have := heap_alloc_new (w.alloc (.cells #[.slice A0 l0.length c0] 44)) (.cells #[.slice A1 l1.length c1] 44)
    simpa using this)
  have HE := Aside0.mk hw2
  clear h hl1 hl2 hl3 hr0 hr1 hc0 hc1 hw2
  go_enter Tryd.func20, Tryd.ntmps20
  go_wp2_with (go_at_call 38; rw [← HE.out]; refine (wildA l0.length l1.length HL1.out HL2.out (partsSt l0) (partsFt l0 l1) ⟨w.heap.size, 0, none⟩ ⟨w.heap.size + 1, 0, none⟩ w2 (fun W i hb hi => parts1_calls l0 A0 c0 w.heap.size W i (Kd.C_below HC0.out (below_step HW2.out hb)) ((blk_cell (blk_below HB0.out hb) 0).trans rfl) hi) (fun W i k hb hi hk hst => parts2_calls l0 l1 A0 A1 c0 c1 w.heap.size (w.heap.size + 1) W i k _ (Kd.C_below HC0.out (below_step HW2.out hb)) (Kd.C_below HC1.out (below_step HW2.out hb)) ⟨_, blk_below HB0.out hb⟩ ⟨_, blk_below HB1.out hb⟩ hi hk (HAL.out i k hi hk hst))).mono ?_; rintro e w6 ⟨⟨b, rfl, hb⟩, hb6⟩; have HBB := Aside0.mk hb; have HW6 := Aside0.mk (below_step HW2.out hb6); clear hb hb6)
  go_ret
  refine ⟨?_, HW6.out⟩
  have : b = r := by
    rw [← HR.out, Bool.eq_iff_iff, HBB.out, fitB_fit]
  rw [this]
  rfl

/-! ### path_Parts: function 21 -/
def path_Parts.f (a0 : ByteArray) : Option (List ByteArray) := if a0.toList = ([] : List UInt8) then (some ([] : List ByteArray)) else ((strings_Split.f a0 (⟨#[47]⟩ : ByteArray)).bind fun t123 => (some t123))
set_option maxHeartbeats 8000000 in
set_option maxRecDepth 100000 in
theorem path_Parts.calls (a0 : ByteArray) (r : List ByteArray) (w : World) (hG0_ : G_ w) (h : path_Parts.f a0 = some r) :
    Calls Tryd.prog 21 #[.string a0] w fun e w' => ∃ v0_ : Value, e = .returned (v0_) ∧ Kd.R Kd.string 9 w' w.heap.size (fun _ => True) v0_ r ∧ Below w.heap.size w w' := by
  have hG_ := Aside0.mk hG0_
  clear hG0_
  have HB := Aside0.mk (Below.refl w.heap.size w)
  have H : (if a0.toList = ([] : List UInt8) then (some ([] : List ByteArray)) else ((strings_Split.f a0 (⟨#[47]⟩ : ByteArray)).bind fun t123 => (some t123))) = some r := h
  clear h
  by_cases c2 : a0.toList = ([] : List UInt8)
  · rw [if_pos c2] at H
    have c2b0 : (a0.toList == ([] : List UInt8)) = true := beq_iff_eq.mpr c2
    have c2b1 : (a0.toList != ([] : List UInt8)) = false := bne_eq_false_iff_eq.mpr c2
    clear c2
    obtain rfl := Option.some.inj H
    go_enter Tryd.func21, Tryd.ntmps21
    go_wp2
    go_ret
    exact ⟨_, by first | rfl | (simp [errW_none, errW_some] <;> rfl) | (simp [*, errW_none, errW_some] <;> rfl), by first | exact Kd.R_nil _ _ _ _ _ | exact Kd.N_nil _ _ _ _ _ | exact Kd.V_nil _ _ _ _ _ | exact Kd.Q_nil _ _ _ _ _ | exact Kd.S_nil _ _ _ _ _, by repeat (first | (with_reducible first | exact HB.out | apply below_alloc | apply pw_below_drewN | apply below_drew1) | exact HB.out)⟩
  · rw [if_neg c2] at H
    have c2b0 : (a0.toList == ([] : List UInt8)) = false := beq_eq_false_iff_ne.mpr c2
    have c2b1 : (a0.toList != ([] : List UInt8)) = true := bne_iff_ne.mpr c2
    replace H := Option.bind_eq_some_iff.mp H
    obtain ⟨t123, A30, H⟩ := H
    replace H : (some t123) = some r := H
    have A3 := Aside0.mk A30
    clear A30
    obtain rfl := Option.some.inj H
    go_enter Tryd.func21, Tryd.ntmps21
    go_wp2_with (first | ((with_reducible refine gate_callee (f := 36) rfl ?_); refine goesL_ (some 6) rfl rfl Tryd.func36 (by kernel_rfl) rfl #[.string a0, .string (⟨#[47]⟩ : ByteArray)] rfl (by (try simp only [List.map_toArray, List.map_cons, List.map_nil]); first | done | rfl | (simp only [List.length_drop, List.length_take]; rfl)) ?_; (with_reducible refine (strings_Split.calls a0 (⟨#[47]⟩ : ByteArray) t123 _ ?side1 A3.out).mono ?_); (case side1 => exact G_below hG_.out (by repeat (first | (with_reducible first | exact HB.out | apply below_alloc | apply pw_below_drewN | apply below_drew1) | exact HB.out))); rintro e w4 ⟨v124, rfl, ho0, hb⟩; refine ⟨_, rfl, ?_⟩; have n0_ := Aside0.mk (Kd.R_lower ho0 (below_size (by repeat (first | (with_reducible first | exact HB.out | apply below_alloc | apply pw_below_drewN | apply below_drew1) | exact HB.out)))); have n1_ := Aside0.mk (below_step (by repeat (first | (with_reducible first | exact HB.out | apply below_alloc | apply pw_below_drewN | apply below_drew1) | exact HB.out)) hb); clear HB; have HO125 := n0_; have HB := n1_; clear n0_ n1_; (try clear hb); (try clear hb2); (try clear hk); (try clear hi); (try clear ho0)))
    go_ret
    exact ⟨_, by first | rfl | (simp [errW_none, errW_some] <;> rfl) | (simp [*, errW_none, errW_some] <;> rfl), by (with_reducible repeat (first | apply Kd.R_alloc | apply Kd.R_drewN | apply Kd.R_drew)); exact HO125.out, by repeat (first | (with_reducible first | exact HB.out | apply below_alloc | apply pw_below_drewN | apply below_drew1) | exact HB.out)⟩

/-! ### glob_Fits: function 12 -/
def glob_Fits.f (k : Nat) (a0 : ByteArray) (a1 : ByteArray) : Option (Bool × Int) := (glob_Check.f k a0).bind fun t126 => (if t126 = 0 then ((path_Check.f k a1).bind fun t127 => (if t127 = 0 then ((path_Parts.f a0).bind fun t128 => ((path_Parts.f a1).bind fun t131 => ((glob_parts.f t128 t131).bind fun t134 => (some (t134, 0))))) else (some (false, t127)))) else (some (false, t126)))
theorem glob_Fits.mono : ∀ a0 a1 k, LeO (glob_Fits.f k a0 a1) (glob_Fits.f (k + 1) a0 a1) := by
  intro a0 a1 k
  unfold glob_Fits.f
  repeat' first
      | (with_reducible exact glob_Check.mono _ _)
      | (with_reducible exact path_Check.mono _ _)
      | (with_reducible exact LeO.refl _)
      | (with_reducible exact LeO.none _)
      | (with_reducible refine LeO.ite ?_ ?_)
      | (with_reducible refine LeO.bind ?_ (fun _ => ?_))
      | exact glob_Check.mono _ _
      | exact path_Check.mono _ _
      | exact LeO.none _
      | refine LeO.ite ?_ ?_
      | refine LeO.bind ?_ (fun _ => ?_)
set_option maxHeartbeats 8000000 in
set_option maxRecDepth 100000 in
theorem glob_Fits.calls (k : Nat) (a0 : ByteArray) (a1 : ByteArray) (r1 : Bool) (r2 : Int) (w : World) (hG0_ : G_ w) (h : glob_Fits.f k a0 a1 = some (r1, r2)) :
    Calls Tryd.prog 12 #[.string a0, .string a1] w fun e w' => e = .returned (.tuple #[.bool r1, .int .i64 r2]) ∧ Below w.heap.size w w' := by
  have hG_ := Aside0.mk hG0_
  clear hG0_
  have HB := Aside0.mk (Below.refl w.heap.size w)
  have H : ((glob_Check.f k a0).bind fun t126 => (if t126 = 0 then ((path_Check.f k a1).bind fun t127 => (if t127 = 0 then ((path_Parts.f a0).bind fun t128 => ((path_Parts.f a1).bind fun t131 => ((glob_parts.f t128 t131).bind fun t134 => (some (t134, 0))))) else (some (false, t127)))) else (some (false, t126)))) = some (r1, r2) := h
  clear h
  replace H := Option.bind_eq_some_iff.mp H
  obtain ⟨t126, A30, H⟩ := H
  replace H : (if t126 = 0 then ((path_Check.f k a1).bind fun t127 => (if t127 = 0 then ((path_Parts.f a0).bind fun t128 => ((path_Parts.f a1).bind fun t131 => ((glob_parts.f t128 t131).bind fun t134 => (some (t134, 0))))) else (some (false, t127)))) else (some (false, t126))) = some (r1, r2) := H
  have A3 := Aside0.mk A30
  clear A30
  by_cases c4 : t126 = 0
  · rw [if_pos c4] at H
    have c4b0 : (t126 == 0) = true := beq_iff_eq.mpr c4
    have c4b1 : (t126 != 0) = false := bne_eq_false_iff_eq.mpr c4
    clear c4
    replace H := Option.bind_eq_some_iff.mp H
    obtain ⟨t127, A50, H⟩ := H
    replace H : (if t127 = 0 then ((path_Parts.f a0).bind fun t128 => ((path_Parts.f a1).bind fun t131 => ((glob_parts.f t128 t131).bind fun t134 => (some (t134, 0))))) else (some (false, t127))) = some (r1, r2) := H
    have A5 := Aside0.mk A50
    clear A50
    by_cases c6 : t127 = 0
    · rw [if_pos c6] at H
      have c6b0 : (t127 == 0) = true := beq_iff_eq.mpr c6
      have c6b1 : (t127 != 0) = false := bne_eq_false_iff_eq.mpr c6
      clear c6
      replace H := Option.bind_eq_some_iff.mp H
      obtain ⟨t128, A70, H⟩ := H
      replace H : ((path_Parts.f a1).bind fun t131 => ((glob_parts.f t128 t131).bind fun t134 => (some (t134, 0)))) = some (r1, r2) := H
      have A7 := Aside0.mk A70
      clear A70
      replace H := Option.bind_eq_some_iff.mp H
      obtain ⟨t131, A80, H⟩ := H
      replace H : ((glob_parts.f t128 t131).bind fun t134 => (some (t134, 0))) = some (r1, r2) := H
      have A8 := Aside0.mk A80
      clear A80
      replace H := Option.bind_eq_some_iff.mp H
      obtain ⟨t134, A90, H⟩ := H
      replace H : (some (t134, 0)) = some (r1, r2) := H
      have A9 := Aside0.mk A90
      clear A90
      simp only [Option.some.injEq, Prod.mk.injEq] at H
      obtain ⟨rfl, rfl⟩ := H
      go_enter Tryd.func12, Tryd.ntmps12
      go_wp2_with (first | ((with_reducible refine gate_callee (f := 18) rfl ?_); refine goesL_ (some 9) rfl rfl Tryd.func18 (by kernel_rfl) rfl #[.string a0] rfl (by (try simp only [List.map_toArray, List.map_cons, List.map_nil]); first | done | rfl | (simp only [List.length_drop, List.length_take]; rfl)) ?_; (with_reducible refine (glob_Check.calls k a0 t126 _ ?side1 A3.out).mono ?_); (case side1 => exact G_below hG_.out (by repeat (first | (with_reducible first | exact HB.out | apply below_alloc | apply pw_below_drewN | apply below_drew1) | exact HB.out))); rintro e w10 ⟨rfl, hb⟩; refine ⟨_, rfl, ?_⟩; have n0_ := Aside0.mk (below_step (by repeat (first | (with_reducible first | exact HB.out | apply below_alloc | apply pw_below_drewN | apply below_drew1) | exact HB.out)) hb); clear HB; have HB := n0_; clear n0_; (try clear hb); (try clear hb2); (try clear hk); (try clear hi)) | ((with_reducible refine gate_callee (f := 19) rfl ?_); refine goesL_ (some 14) rfl rfl Tryd.func19 (by kernel_rfl) rfl #[.string a1] rfl (by (try simp only [List.map_toArray, List.map_cons, List.map_nil]); first | done | rfl | (simp only [List.length_drop, List.length_take]; rfl)) ?_; (with_reducible refine (path_Check.calls k a1 t127 _ ?side1 A5.out).mono ?_); (case side1 => exact G_below hG_.out (by repeat (first | (with_reducible first | exact HB.out | apply below_alloc | apply pw_below_drewN | apply below_drew1) | exact HB.out))); rintro e w11 ⟨rfl, hb⟩; refine ⟨_, rfl, ?_⟩; have n0_ := Aside0.mk (below_step (by repeat (first | (with_reducible first | exact HB.out | apply below_alloc | apply pw_below_drewN | apply below_drew1) | exact HB.out)) hb); clear HB; have HB := n0_; clear n0_; (try clear hb); (try clear hb2); (try clear hk); (try clear hi)) | ((with_reducible refine gate_callee (f := 21) rfl ?_); refine goesL_ (some 19) rfl rfl Tryd.func21 (by kernel_rfl) rfl #[.string a0] rfl (by (try simp only [List.map_toArray, List.map_cons, List.map_nil]); first | done | rfl | (simp only [List.length_drop, List.length_take]; rfl)) ?_; (with_reducible refine (path_Parts.calls a0 t128 _ ?side1 A7.out).mono ?_); (case side1 => exact G_below hG_.out (by repeat (first | (with_reducible first | exact HB.out | apply below_alloc | apply pw_below_drewN | apply below_drew1) | exact HB.out))); rintro e w12 ⟨v129, rfl, ho0, hb⟩; refine ⟨_, rfl, ?_⟩; have n0_ := Aside0.mk (Kd.R_lower ho0 (below_size (by repeat (first | (with_reducible first | exact HB.out | apply below_alloc | apply pw_below_drewN | apply below_drew1) | exact HB.out)))); have n1_ := Aside0.mk (below_step (by repeat (first | (with_reducible first | exact HB.out | apply below_alloc | apply pw_below_drewN | apply below_drew1) | exact HB.out)) hb); clear HB; have HO130 := n0_; have HB := n1_; clear n0_ n1_; (try clear hb); (try clear hb2); (try clear hk); (try clear hi); (try clear ho0)) | ((with_reducible refine gate_callee (f := 21) rfl ?_); refine goesL_ (some 21) rfl rfl Tryd.func21 (by kernel_rfl) rfl #[.string a1] rfl (by (try simp only [List.map_toArray, List.map_cons, List.map_nil]); first | done | rfl | (simp only [List.length_drop, List.length_take]; rfl)) ?_; (with_reducible refine (path_Parts.calls a1 t131 _ ?side1 A8.out).mono ?_); (case side1 => exact G_below hG_.out (by repeat (first | (with_reducible first | exact HB.out | apply below_alloc | apply pw_below_drewN | apply below_drew1) | exact HB.out))); rintro e w13 ⟨v132, rfl, ho0, hb⟩; refine ⟨_, rfl, ?_⟩; have n0_ := Aside0.mk (Kd.R_elder' (by (with_reducible repeat (first | apply Kd.R_alloc | apply Kd.R_drewN | apply Kd.R_drew)); exact HO130.out) (Kd.R_base ho0) hb); have n1_ := Aside0.mk (Kd.R_lower (Kd.R_new' ho0 (Kd.R_lt (by (with_reducible repeat (first | apply Kd.R_alloc | apply Kd.R_drewN | apply Kd.R_drew)); exact HO130.out))) (below_size (by repeat (first | (with_reducible first | exact HB.out | apply below_alloc | apply pw_below_drewN | apply below_drew1) | exact HB.out)))); have n2_ := Aside0.mk (below_step (by repeat (first | (with_reducible first | exact HB.out | apply below_alloc | apply pw_below_drewN | apply below_drew1) | exact HB.out)) hb); clear HO130; clear HB; have HO130 := n0_; have HO133 := n1_; have HB := n2_; clear n0_ n1_ n2_; (try clear hb); (try clear hb2); (try clear hk); (try clear hi); (try clear ho0); obtain ⟨Ao14, co14, eo14⟩ := Kd.R_slice HO130.out; subst eo14; obtain ⟨Ao15, co15, eo15⟩ := Kd.R_slice HO133.out; subst eo15) | ((with_reducible refine gate_callee (f := 20) rfl ?_); refine goesL_ (some 22) rfl rfl Tryd.func20 (by kernel_rfl) rfl #[.slice Ao14 t128.length co14, .slice Ao15 t131.length co15] rfl (by (try simp only [List.map_toArray, List.map_cons, List.map_nil]); first | done | rfl | (simp only [List.length_drop, List.length_take]; rfl)) ?_; (with_reducible refine (glob_parts.calls _ _ t128 _ _ t131 t134 _ ?side1 ?side2 ?side3 ?side4 A9.out).mono ?_); (case side1 => repeat (first | exact (Kd.R_reads' HO130.out).2.2 | (with_reducible refine Kd.C_alloc ?_ _) | (with_reducible refine Kd.C_drewN ?_ _) | (with_reducible refine Kd.C_drew ?_))); (case side2 => exact (Kd.R_reads' HO130.out).2.1); (case side3 => repeat (first | exact (Kd.R_reads' HO133.out).2.2 | (with_reducible refine Kd.C_alloc ?_ _) | (with_reducible refine Kd.C_drewN ?_ _) | (with_reducible refine Kd.C_drew ?_))); (case side4 => exact (Kd.R_reads' HO133.out).2.1); rintro e w16 ⟨rfl, hb⟩; refine ⟨_, rfl, ?_⟩; have n0_ := Aside0.mk (Kd.R_below (by (with_reducible repeat (first | apply Kd.R_alloc | apply Kd.R_drewN | apply Kd.R_drew)); exact HO130.out) hb); have n1_ := Aside0.mk (Kd.R_below (by (with_reducible repeat (first | apply Kd.R_alloc | apply Kd.R_drewN | apply Kd.R_drew)); exact HO133.out) hb); have n2_ := Aside0.mk (below_step (by repeat (first | (with_reducible first | exact HB.out | apply below_alloc | apply pw_below_drewN | apply below_drew1) | exact HB.out)) hb); clear HO130; clear HO133; clear HB; have HO130 := n0_; have HO133 := n1_; have HB := n2_; clear n0_ n1_ n2_; (try clear hb); (try clear hb2); (try clear hk); (try clear hi)))
      go_ret2
      exact ⟨by first | rfl | (simp [errW_none, errW_some] <;> rfl) | (simp [*, errW_none, errW_some] <;> rfl) | (simp [errW_none, errW_some] <;> (generalize ByteArray.toList _ = l_ <;> cases l_ <;> rfl)), by repeat (first | (with_reducible first | exact HB.out | apply below_alloc | apply pw_below_drewN | apply below_drew1) | exact HB.out)⟩
    · rw [if_neg c6] at H
      have c6b0 : (t127 == 0) = false := beq_eq_false_iff_ne.mpr c6
      have c6b1 : (t127 != 0) = true := bne_iff_ne.mpr c6
      simp only [Option.some.injEq, Prod.mk.injEq] at H
      obtain ⟨rfl, rfl⟩ := H
      go_enter Tryd.func12, Tryd.ntmps12
      go_wp2_with (first | ((with_reducible refine gate_callee (f := 18) rfl ?_); refine goesL_ (some 9) rfl rfl Tryd.func18 (by kernel_rfl) rfl #[.string a0] rfl (by (try simp only [List.map_toArray, List.map_cons, List.map_nil]); first | done | rfl | (simp only [List.length_drop, List.length_take]; rfl)) ?_; (with_reducible refine (glob_Check.calls k a0 t126 _ ?side1 A3.out).mono ?_); (case side1 => exact G_below hG_.out (by repeat (first | (with_reducible first | exact HB.out | apply below_alloc | apply pw_below_drewN | apply below_drew1) | exact HB.out))); rintro e w17 ⟨rfl, hb⟩; refine ⟨_, rfl, ?_⟩; have n0_ := Aside0.mk (below_step (by repeat (first | (with_reducible first | exact HB.out | apply below_alloc | apply pw_below_drewN | apply below_drew1) | exact HB.out)) hb); clear HB; have HB := n0_; clear n0_; (try clear hb); (try clear hb2); (try clear hk); (try clear hi)) | ((with_reducible refine gate_callee (f := 19) rfl ?_); refine goesL_ (some 14) rfl rfl Tryd.func19 (by kernel_rfl) rfl #[.string a1] rfl (by (try simp only [List.map_toArray, List.map_cons, List.map_nil]); first | done | rfl | (simp only [List.length_drop, List.length_take]; rfl)) ?_; (with_reducible refine (path_Check.calls k a1 t127 _ ?side1 A5.out).mono ?_); (case side1 => exact G_below hG_.out (by repeat (first | (with_reducible first | exact HB.out | apply below_alloc | apply pw_below_drewN | apply below_drew1) | exact HB.out))); rintro e w18 ⟨rfl, hb⟩; refine ⟨_, rfl, ?_⟩; have n0_ := Aside0.mk (below_step (by repeat (first | (with_reducible first | exact HB.out | apply below_alloc | apply pw_below_drewN | apply below_drew1) | exact HB.out)) hb); clear HB; have HB := n0_; clear n0_; (try clear hb); (try clear hb2); (try clear hk); (try clear hi)))
      go_ret2
      exact ⟨by first | rfl | (simp [errW_none, errW_some] <;> rfl) | (simp [*, errW_none, errW_some] <;> rfl) | (simp [errW_none, errW_some] <;> (generalize ByteArray.toList _ = l_ <;> cases l_ <;> rfl)), by repeat (first | (with_reducible first | exact HB.out | apply below_alloc | apply pw_below_drewN | apply below_drew1) | exact HB.out)⟩
  · rw [if_neg c4] at H
    have c4b0 : (t126 == 0) = false := beq_eq_false_iff_ne.mpr c4
    have c4b1 : (t126 != 0) = true := bne_iff_ne.mpr c4
    simp only [Option.some.injEq, Prod.mk.injEq] at H
    obtain ⟨rfl, rfl⟩ := H
    go_enter Tryd.func12, Tryd.ntmps12
    go_wp2_with (first | ((with_reducible refine gate_callee (f := 18) rfl ?_); refine goesL_ (some 9) rfl rfl Tryd.func18 (by kernel_rfl) rfl #[.string a0] rfl (by (try simp only [List.map_toArray, List.map_cons, List.map_nil]); first | done | rfl | (simp only [List.length_drop, List.length_take]; rfl)) ?_; (with_reducible refine (glob_Check.calls k a0 t126 _ ?side1 A3.out).mono ?_); (case side1 => exact G_below hG_.out (by repeat (first | (with_reducible first | exact HB.out | apply below_alloc | apply pw_below_drewN | apply below_drew1) | exact HB.out))); rintro e w19 ⟨rfl, hb⟩; refine ⟨_, rfl, ?_⟩; have n0_ := Aside0.mk (below_step (by repeat (first | (with_reducible first | exact HB.out | apply below_alloc | apply pw_below_drewN | apply below_drew1) | exact HB.out)) hb); clear HB; have HB := n0_; clear n0_; (try clear hb); (try clear hb2); (try clear hk); (try clear hi)))
    go_ret2
    exact ⟨by first | rfl | (simp [errW_none, errW_some] <;> rfl) | (simp [*, errW_none, errW_some] <;> rfl) | (simp [errW_none, errW_some] <;> (generalize ByteArray.toList _ = l_ <;> cases l_ <;> rfl)), by repeat (first | (with_reducible first | exact HB.out | apply below_alloc | apply pw_below_drewN | apply below_drew1) | exact HB.out)⟩

end Go.Proofs.YtjpihifgldmgoaaDoor.PGlobSets
