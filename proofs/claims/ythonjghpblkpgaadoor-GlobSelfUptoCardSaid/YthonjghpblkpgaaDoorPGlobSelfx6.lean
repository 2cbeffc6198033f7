-- Written by a program of this session for this claim (wip/myprint.py over the kit's print).
import Derived.Test.YthonjghpblkpgaaDoorPGlobSelfx0
import Derived.Test.YthonjghpblkpgaaDoorPGlobSelfx1
import Derived.Test.YthonjghpblkpgaaDoorPGlobSelfx3
import Derived.Test.YthonjghpblkpgaaDoorPGlobSelfx4
import Derived.Test.YthonjghpblkpgaaDoorPGlobSelfx5
namespace Go.Proofs.YthonjghpblkpgaaDoor.PGlobSelf
open Go.RowKit Go.Proofs.YthonjghpblkpgaaDoorW.PrintWords Go.Proofs.YthonjghpblkpgaaDoorW.PrintLast Go.Proofs.YthonjghpblkpgaaDoorW.PrintMore
attribute [local go_sem] max2_int min2_int max_two min_two max_three min_three max_four min_four   -- for this text's walks alone
set_option linter.unusedVariables false
set_option linter.unusedSimpArgs false

/-! ### glob_parts: function 72 -/
set_option maxHeartbeats 4000000 in
set_option maxRecDepth 100000 in
theorem wildA (n m : Nat) (hn : n ≤ 1000000000) (hm : m ≤ 1000000000) (st : Nat → Bool) (ft : Nat → Nat → Bool) (ps pf : Addr) (w : World)
    (hst : ∀ (W : World) (i : Nat), Below w.heap.size w W → i < n → Calls Tryd.prog 106 #[.int .i64 (i : Int), .pointer (some ps)] W fun e w' => e = .returned (.bool (st i)) ∧ Below W.heap.size W w')
    (hft : ∀ (W : World) (i k : Nat), Below w.heap.size w W → i < n → k < m → st i = false → Calls Tryd.prog 107 #[.int .i64 (i : Int), .int .i64 (k : Int), .pointer (some ps), .pointer (some pf)] W fun e w' => e = .returned (.bool (ft i k)) ∧ Below W.heap.size W w') :
    Calls Tryd.prog 105 #[.int .i64 (n : Int), .int .i64 (m : Int), .func (.func 106) #[] #[.pointer (some ps)], .func (.func 107) #[] #[.pointer (some ps), .pointer (some pf)]] w fun e w' => (∃ b, e = .returned (.bool b) ∧ (b = true ↔ Fit n m st ft 0 0)) ∧ Below w.heap.size w w' := by
  have HS := Aside0.mk hst
  have HF := Aside0.mk hft
  have HN := Aside0.mk hn
  have HM := Aside0.mk hm
  clear hst hft hn hm
  go_enter Tryd.func105, Tryd.ntmps105
  go_wp2_with fail
  go_loopg [9, 10, 11, 12] (wildM n m (-1) 0 0) (fun kq v9 v10 v11 v12 w' => ∃ (i last from_ k : Int), v9 = .int .i64 i ∧ v10 = .int .i64 last ∧ v11 = .int .i64 from_ ∧ v12 = .int .i64 k ∧ Aside0 (At n m st ft i last from_ k) ∧ Aside0 (wildM n m last from_ k ≤ kq) ∧ Aside0 (Below w.heap.size w w'))
  case atStart => exact ⟨0, -1, 0, 0, rfl, rfl, rfl, rfl, ⟨at_start⟩, ⟨Nat.le_refl _⟩, ⟨Below.refl _ _⟩⟩
  case round =>
    obtain ⟨i, last, from_, k, rfl, rfl, rfl, rfl, HA, HK, HB⟩ := hrel
    obtain ⟨i, rfl⟩ := Int.eq_ofNat_of_zero_le HA.out.i0
    obtain ⟨k, rfl⟩ := Int.eq_ofNat_of_zero_le HA.out.k0
    by_cases hk : (k : Int) < (m : Int)
    · have go : i < n ∧ st i = true ∨ i < n ∧ st i = false ∧ ft i k = true ∨ (i < n ∧ st i = false ∧ ft i k = false ∨ ¬ i < n) := by
        by_cases h1 : i < n
        · cases h2 : st i
          · cases h3 : ft i k
            · exact .inr (.inr (.inl ⟨h1, rfl, rfl⟩))
            · exact .inr (.inl ⟨h1, rfl, rfl⟩)
          · exact .inl ⟨h1, rfl⟩
        · exact .inr (.inr (.inr h1))
      rcases go with ⟨hi, hs⟩ | ⟨hi, hs, hf⟩ | hno
      · have hi' : (i : Int) < (n : Int) := by omega
        have HI := Aside0.mk hi
        clear hi
        go_wp2_with (go_at_call 106; refine (HS.out _ i HB.out HI.out).mono ?_; rintro e w2 ⟨rfl, hb2⟩; have HB2 := Aside0.mk (below_step HB.out hb2); clear hb2)
        go_roundg (wildM n m (i : Int) (k : Int) (k : Int))
        case measure =>
          refine Nat.lt_of_lt_of_le ?_ HK.out
          have h1 := HA.out.li
          have h2 := HI.out
          exact lexM m _ _ _ _ _ _ (by omega) (by omega) (.inl (by omega))
        case rel => exact ⟨(i : Int) + 1, i, k, k, by rw [w64 (by omega) (by have := HN.out; omega)], rfl, rfl, rfl, ⟨at_star HA.out (by have := HI.out; omega) (by simpa using hs)⟩, ⟨Nat.le_refl _⟩, HB2⟩
      · have hi' : (i : Int) < (n : Int) := by omega
        have HI := Aside0.mk hi
        clear hi
        go_wp2_with (first | (go_at_call 106; refine (HS.out _ i HB.out HI.out).mono ?_; rintro e w2 ⟨rfl, hb2⟩; have HB2 := Aside0.mk (below_step HB.out hb2); clear hb2) | (go_at_call 107; refine (HF.out _ i k HB2.out HI.out (by omega) (by assumption)).mono ?_; rintro e w3 ⟨rfl, hb3⟩; have HB3 := Aside0.mk (below_step HB2.out hb3); clear hb3))
        go_roundg (wildM n m last from_ ((k : Int) + 1))
        case measure =>
          refine Nat.lt_of_lt_of_le ?_ HK.out
          have h1 := HA.out.f0
          exact lexM m _ _ _ _ _ _ (by omega) (by omega) (.inr ⟨rfl, .inr ⟨rfl, by omega⟩⟩)
        case rel => exact ⟨(i : Int) + 1, last, from_, (k : Int) + 1, by rw [w64 (by omega) (by have := HN.out; omega)], rfl, rfl, by rw [w64 (by omega) (by have := HM.out; omega)], ⟨at_one HA.out (by have := HI.out; omega) hk (by simpa using hs) (by simpa using hf)⟩, ⟨Nat.le_refl _⟩, HB3⟩
      · have hmiss : (i : Int) < n → st (i : Int).toNat = false ∧ ft (i : Int).toNat (k : Int).toNat = false := fun h => by
          rcases hno with ⟨_, h1, h2⟩ | h1
          · simpa using ⟨h1, h2⟩
          · omega
        have HMI := Aside0.mk hmiss
        clear hmiss
        by_cases hl : 0 ≤ last
        · have HL := Aside0.mk hl
          rcases hno with ⟨hi, hs, hf⟩ | hi
          · have hi' : (i : Int) < (n : Int) := by omega
            have HI := Aside0.mk hi
            clear hi
            go_wp2_with (first | (go_at_call 106; refine (HS.out _ i HB.out HI.out).mono ?_; rintro e w2 ⟨rfl, hb2⟩; have HB2 := Aside0.mk (below_step HB.out hb2); clear hb2) | (go_at_call 107; refine (HF.out _ i k HB2.out HI.out (by omega) (by assumption)).mono ?_; rintro e w3 ⟨rfl, hb3⟩; have HB3 := Aside0.mk (below_step HB2.out hb3); clear hb3))
            go_roundg (wildM n m last (from_ + 1) (from_ + 1))
            case measure => 
              refine Nat.lt_of_lt_of_le ?_ HK.out
              have h1 := HA.out.f0
              have h2 := HA.out.fk HL.out
              have h3 := HA.out.li
              exact lexM m _ _ _ _ _ _ (by omega) (by omega) (.inr ⟨rfl, .inl (by omega)⟩)
            case rel => exact ⟨last + 1, last, from_ + 1, from_ + 1, by (have h1 := HA.out.li; have h3 := HA.out.iN; rw [w64 (by omega) (by have := HN.out; omega)]), rfl, by (have h1 := HA.out.f0; have h2 := HA.out.fk HL.out; have h3 := HA.out.li; rw [w64 (by omega) (by have := HM.out; omega)]), by (have h1 := HA.out.f0; have h2 := HA.out.fk HL.out; have h3 := HA.out.li; rw [w64 (by omega) (by have := HM.out; omega)]), ⟨at_again HA.out (by omega) HMI.out HL.out⟩, ⟨Nat.le_refl _⟩, HB3⟩
          · have hi' : ¬ (i : Int) < (n : Int) := by omega
            clear hi
            go_wp2_with fail
            go_roundg (wildM n m last (from_ + 1) (from_ + 1))
            case measure => 
              refine Nat.lt_of_lt_of_le ?_ HK.out
              have h1 := HA.out.f0
              have h2 := HA.out.fk HL.out
              have h3 := HA.out.li
              exact lexM m _ _ _ _ _ _ (by omega) (by omega) (.inr ⟨rfl, .inl (by omega)⟩)
            case rel => exact ⟨last + 1, last, from_ + 1, from_ + 1, by (have h1 := HA.out.li; have h3 := HA.out.iN; rw [w64 (by omega) (by have := HN.out; omega)]), rfl, by (have h1 := HA.out.f0; have h2 := HA.out.fk HL.out; have h3 := HA.out.li; rw [w64 (by omega) (by have := HM.out; omega)]), by (have h1 := HA.out.f0; have h2 := HA.out.fk HL.out; have h3 := HA.out.li; rw [w64 (by omega) (by have := HM.out; omega)]), ⟨at_again HA.out (by omega) HMI.out HL.out⟩, ⟨Nat.le_refl _⟩, HB⟩
        · have hnf := Aside0.mk (at_none HA.out (by omega) HMI.out (by omega))
          rcases hno with ⟨hi, hs, hf⟩ | hi
          · have hi' : (i : Int) < (n : Int) := by omega
            have HI := Aside0.mk hi
            clear hi
            go_wp2_with (first | (go_at_call 106; refine (HS.out _ i HB.out HI.out).mono ?_; rintro e w2 ⟨rfl, hb2⟩; have HB2 := Aside0.mk (below_step HB.out hb2); clear hb2) | (go_at_call 107; refine (HF.out _ i k HB2.out HI.out (by omega) (by assumption)).mono ?_; rintro e w3 ⟨rfl, hb3⟩; have HB3 := Aside0.mk (below_step HB2.out hb3); clear hb3))
            go_ret
            first | exact ⟨⟨false, rfl, by simp [hnf.out]⟩, HB3.out⟩ | exact ⟨.inl ⟨rfl, hnf.out⟩, HB3.out⟩
          · have hi' : ¬ (i : Int) < (n : Int) := by omega
            clear hi
            go_wp2_with fail
            go_ret
            first | exact ⟨⟨false, rfl, by simp [hnf.out]⟩, HB.out⟩ | exact ⟨.inl ⟨rfl, hnf.out⟩, HB.out⟩
    · have hkm : k = m := by have := HA.out.kM; omega
      subst hkm
      have HE := Aside0.mk (at_end HA.out)
      have HIN := Aside0.mk HA.out.iN
      clear HA HK
      go_wp2_with fail
      go_loopg [9] (n - i) (fun kq v9 w' => ∃ j : Nat, v9 = .int .i64 (j : Int) ∧ Aside0 (i ≤ j ∧ j ≤ n ∧ kq = n - j) ∧ Aside0 (∀ q : Nat, i ≤ q → q < j → st q = true) ∧ Aside0 (Below w.heap.size w w'))
      case atStart => exact ⟨i, rfl, ⟨Nat.le_refl _, by have := HIN.out; omega, rfl⟩, ⟨fun q h1 h2 => by omega⟩, HB⟩
      case round =>
        obtain ⟨j, rfl, HJ, HQ, HB2⟩ := hrel
        by_cases hj : j < n
        · have hj' : (j : Int) < (n : Int) := by omega
          have HI := Aside0.mk hj
          clear hj
          by_cases hs : st j = true
          · go_wp2_with (go_at_call 106; refine (HS.out _ j HB2.out HI.out).mono ?_; rintro e w2 ⟨rfl, hb2⟩; have HB3 := Aside0.mk (below_step HB2.out hb2); clear hb2)
            go_roundg (gk - 1)
            case measure => have := HJ.out; have := HI.out; omega
            case rel => exact ⟨j + 1, by rw [w64 (by omega) (by have := HN.out; omega)]; rfl, ⟨by have := HJ.out; omega, HI.out, by have := HJ.out; omega⟩, ⟨fun q h1 h2 => by
              by_cases e : q = j
              · rw [e]; exact hs
              · exact HQ.out q h1 (by omega)⟩, HB3⟩
          · have hs2 : st j = false := by simpa using hs
            have hnf := Aside0.mk (show ¬ Fit n k st ft 0 0 from fun h => by
              have := HE.out.1 h j (by have := HJ.out; omega) HI.out
              rw [hs2] at this; cases this)
            clear hs
            have hne : ((j : Int) == (n : Int)) = false := beq_eq_false_iff_ne.mpr (by have := HI.out; omega)
            go_wp2_with (go_at_call 106; refine (HS.out _ j HB2.out HI.out).mono ?_; rintro e w2 ⟨rfl, hb2⟩; have HB3 := Aside0.mk (below_step HB2.out hb2); clear hb2)
            go_ret
            first | exact ⟨⟨false, rfl, by simp [hnf.out]⟩, HB3.out⟩ | exact ⟨.inl ⟨rfl, hnf.out⟩, HB3.out⟩
        · have hjn : j = n := by have := HJ.out; omega
          subst hjn
          have hf := Aside0.mk (show Fit j k st ft 0 0 from HE.out.2 (fun q h1 h2 => HQ.out q (by omega) h2))
          clear hj
          go_wp2_with fail
          go_ret
          first | exact ⟨⟨true, rfl, by simp [hf.out]⟩, HB2.out⟩ | exact ⟨.inr ⟨rfl, hf.out⟩, HB2.out⟩
set_option maxRecDepth 100000 in
theorem parts1_calls (l : List ByteArray) (A : Option Addr) (c B : Nat) (W : World) (i : Nat) (hC : Kd.C Kd.string W A l.length l) (hB : W.cell? ⟨B, 0, none⟩ = some (.slice A l.length c)) (hi : i < l.length) :
    Calls Tryd.prog 106 #[.int .i64 (i : Int), .pointer (some ⟨B, 0, none⟩)] W fun e w' => e = .returned (.bool ((rdOf ByteArray.empty l (i : Int)).toList == [42, 42])) ∧ Below W.heap.size W w' := by
  have q0 : (0 : Int) ≤ (i : Int) := by omega
  have q1 : (i : Int) < (l.length : Int) := by omega
  obtain ⟨ad, eA, hc⟩ := Kd.at_string hC (i : Int) q0 q1
  simp only [Int.toNat_natCast] at hc
  subst eA
  obtain ⟨s, hs⟩ : ∃ s, s = rdOf ByteArray.empty l (i : Int) := ⟨_, rfl⟩
  rw [← hs] at hc ⊢
  clear hs hi hC
  go_enter Tryd.func106, Tryd.ntmps106
  go_wp2
  go_ret
  exact ⟨by first | rfl | (simp; done), Below.refl _ _⟩
def partsSt (l : List ByteArray) (i : Nat) : Bool := (rdOf ByteArray.empty l (i : Int)).toList == [42, 42]
def partsFt (l s : List ByteArray) (i k : Nat) : Bool := (glob_part.f (rdOf ByteArray.empty l (i : Int)) (rdOf ByteArray.empty s (k : Int))).getD false
def glob_parts.f (l0 l1 : List ByteArray) : Option Bool := if l0.length ≤ 1000000000 ∧ l1.length ≤ 1000000000 ∧ ((List.range l0.length).all fun i => (List.range l1.length).all fun k => partsSt l0 i || (glob_part.f (rdOf ByteArray.empty l0 (i : Int)) (rdOf ByteArray.empty l1 (k : Int))).isSome) = true then some (fitB l0.length l1.length (partsSt l0) (partsFt l0 l1) (l0.length + l1.length) 0 0) else none
set_option maxHeartbeats 4000000 in
set_option maxRecDepth 100000 in
theorem parts2_calls (l s : List ByteArray) (A A2 : Option Addr) (c c2 B B2 : Nat) (W : World) (i k : Nat) (r : Bool) (hC : Kd.C Kd.string W A l.length l) (hC2 : Kd.C Kd.string W A2 s.length s) (hB : ∃ t, W.heap[B]? = some (.cells #[.slice A l.length c] t (0, 0))) (hB2 : ∃ t, W.heap[B2]? = some (.cells #[.slice A2 s.length c2] t (0, 0))) (hi : i < l.length) (hk : k < s.length) (hr : glob_part.f (rdOf ByteArray.empty l (i : Int)) (rdOf ByteArray.empty s (k : Int)) = some r) :
    Calls Tryd.prog 107 #[.int .i64 (i : Int), .int .i64 (k : Int), .pointer (some ⟨B, 0, none⟩), .pointer (some ⟨B2, 0, none⟩)] W fun e w' => e = .returned (.bool r) ∧ Below W.heap.size W w' := by
  have q0 : (0 : Int) ≤ (i : Int) := by omega
  have q1 : (i : Int) < (l.length : Int) := by omega
  have q2 : (0 : Int) ≤ (k : Int) := by omega
  have q3 : (k : Int) < (s.length : Int) := by omega
  obtain ⟨ad, eA, hc⟩ := Kd.at_string hC (i : Int) q0 q1
  obtain ⟨ad2, eA2, hc2⟩ := Kd.at_string hC2 (k : Int) q2 q3
  simp only [Int.toNat_natCast] at hc hc2
  subst eA
  subst eA2
  obtain ⟨t, hB⟩ := hB
  obtain ⟨t2, hB2⟩ := hB2
  obtain ⟨x, hx⟩ : ∃ x, x = rdOf ByteArray.empty l (i : Int) := ⟨_, rfl⟩
  obtain ⟨y, hy⟩ : ∃ y, y = rdOf ByteArray.empty s (k : Int) := ⟨_, rfl⟩
  rw [← hx] at hc hr
  rw [← hy] at hc2 hr
  have HR := Aside0.mk hr
  have HX := Aside0.mk hc
  have HY := Aside0.mk hc2
  have HB := Aside0.mk hB
  have HB2 := Aside0.mk hB2
  clear hi hC hC2 hr hk hx hy hc hc2 hB hB2
  go_enter Tryd.func107, Tryd.ntmps107
  go_upto_region 1 with fail
  have hS : ∀ w', Below W.heap.size W w' → w'.cell? ⟨B, 0, none⟩ = some (.slice (some ad) l.length c) ∧ w'.cell? ⟨B2, 0, none⟩ = some (.slice (some ad2) s.length c2) := fun w' hb => ⟨(blk_cell (blk_below HB.out hb) 0).trans rfl, by
    have h := blk_below HB2.out hb
    exact (blk_cell h 0).trans rfl⟩
  have hL : ∀ w', Below W.heap.size W w' → ∀ a u, W.cell? a = some u → w'.cell? a = some u := fun w' hb a u h => (hb.cell (cellw_lt h)).trans h
  refine region_calm 9 [eqv (.slice (some ad) l.length c), eqv (.int .i64 (i : Int)), cellw (.string x), eqv (.string x), eqv (.slice (some ad2) s.length c2), eqv (.int .i64 (k : Int)), cellw (.string y), eqv (.string y), eqv (.bool r)] (by kernel_rfl) rfl (by kernel_rfl) ?_ (fun vals => ?_) ?_ ?_
  rotate_left
  · simp only [List.take_succ_cons, List.take_zero, putsFrom, Act.put, List.setIfInBounds_toArray, List.set_cons_zero, List.set_cons_succ]
    rfl
  · show calmAll _ _ _ _ _ _ [_, _, _, _, _, _, _, _, _] 0
    refine ⟨?_, ?_, ?_, ?_, ?_, ?_, ?_, ?_, ?_, trivial⟩
    · intro vals w' hb hv
      obtain ⟨s1, s2⟩ := hS w' hb
      clear hv
      go_wp2
      exact ⟨Below.refl _ _, rfl, rfl⟩
    · intro vals w' hb hv
      clear hv
      go_wp2
      exact ⟨Below.refl _ _, rfl, rfl⟩
    · intro vals w' hb hv
      have e0 : vals 0 = .slice (some ad) l.length c := hv 0 (by decide) (by kernel_rfl)
      have e1 : vals 1 = .int .i64 (i : Int) := hv 1 (by decide) (by kernel_rfl)
      have hcell := hL w' hb _ _ HX.out
      have hlt := cellw_lt hcell
      clear hv
      go_wp2
      exact ⟨Below.refl _ _, rfl, _, rfl, hlt, hcell⟩
    · intro vals w' hb hv
      obtain ⟨a9, e0, hlt9, hcell⟩ := hv 2 (by decide) (by kernel_rfl)
      clear hv
      go_wp2
      exact ⟨Below.refl _ _, rfl, rfl⟩
    · intro vals w' hb hv
      obtain ⟨s1, s2⟩ := hS w' hb
      clear hv
      go_wp2
      exact ⟨Below.refl _ _, rfl, rfl⟩
    · intro vals w' hb hv
      clear hv
      go_wp2
      exact ⟨Below.refl _ _, rfl, rfl⟩
    · intro vals w' hb hv
      have e0 : vals 4 = .slice (some ad2) s.length c2 := hv 4 (by decide) (by kernel_rfl)
      have e1 : vals 5 = .int .i64 (k : Int) := hv 5 (by decide) (by kernel_rfl)
      have hcell := hL w' hb _ _ HY.out
      have hlt := cellw_lt hcell
      clear hv
      go_wp2
      exact ⟨Below.refl _ _, rfl, _, rfl, hlt, hcell⟩
    · intro vals w' hb hv
      obtain ⟨a9, e0, hlt9, hcell⟩ := hv 6 (by decide) (by kernel_rfl)
      clear hv
      go_wp2
      exact ⟨Below.refl _ _, rfl, rfl⟩
    · intro vals w' hb hv
      have e0 : vals 3 = .string x := hv 3 (by decide) (by kernel_rfl)
      have e1 : vals 7 = .string y := hv 7 (by decide) (by kernel_rfl)
      clear hv
      go_wp2_with fail
      refine (glob_part.calls x y r _ HR.out).mono ?_
      rintro e w1 ⟨rfl, hb1⟩
      go_wp2
      exact ⟨hb1, rfl, rfl⟩
  intro vals w1 hb1 hend
  have e8 : vals 8 = .bool r := hend.2.2.2.2.2.2.2.2.1
  have HB1 := Aside0.mk hb1
  clear hend hS hL hb1
  go_wp2_with fail
  go_ret
  exact ⟨by first | rfl | (rw [e8]; rfl) | simp [e8], HB1.out⟩
set_option maxHeartbeats 4000000 in
set_option maxRecDepth 100000 in
theorem glob_parts.calls (A0 : Option Addr) (c0 : Nat) (l0 : List ByteArray) (A1 : Option Addr) (c1 : Nat) (l1 : List ByteArray) (r : Bool) (w : World) (hr0 : Kd.C Kd.string w A0 l0.length l0) (hc0 : l0.length ≤ c0) (hr1 : Kd.C Kd.string w A1 l1.length l1) (hc1 : l1.length ≤ c1) (h : glob_parts.f l0 l1 = some r) :
    Calls Tryd.prog 72 #[.slice A0 l0.length c0, .slice A1 l1.length c1] w fun e w' => e = .returned (.bool r) ∧ Below w.heap.size w w' := by
  unfold glob_parts.f at h
  split at h
  case isFalse => cases h
  rename_i hl
  injection h with h
  obtain ⟨hl1, hl2, hl3⟩ := hl
  have HL1 := Aside0.mk hl1
  have HL2 := Aside0.mk hl2
  have HAL := Aside0.mk (show ∀ i k, i < l0.length → k < l1.length → partsSt l0 i = false → glob_part.f (rdOf ByteArray.empty l0 (i : Int)) (rdOf ByteArray.empty l1 (k : Int)) = some (partsFt l0 l1 i k) from fun i k hi hk hst => by
    have h1 := List.all_eq_true.1 (List.all_eq_true.1 hl3 i (List.mem_range.2 hi)) k (List.mem_range.2 hk)
    rw [hst, Bool.false_or] at h1
    exact opt_getD h1)
  have HR := Aside0.mk h
  have HC0 := Aside0.mk hr0
  have HC1 := Aside0.mk hr1
  obtain ⟨w2, hw2⟩ : ∃ w2, w2 = ((w.alloc (.cells #[.slice A0 l0.length c0] 58)).alloc (.cells #[.slice A1 l1.length c1] 58)) := ⟨_, rfl⟩
  have HW2 := Aside0.mk (show Below w.heap.size w w2 from by rw [hw2]; exact below_alloc (below_alloc (Below.refl _ _) _) _)
  have HB0 := Aside0.mk (show w2.heap[w.heap.size]? = some (.cells #[.slice A0 l0.length c0] 58 (0, 0)) from by rw [hw2]; exact (Below.heap_alloc _ _ _ (by simp)).trans (heap_alloc_new _ _))
  have HB1 := Aside0.mk (show w2.heap[w.heap.size + 1]? = some (.cells #[.slice A1 l1.length c1] 58 (0, 0)) from by
    rw [hw2]
    have := heap_alloc_new (w.alloc (.cells #[.slice A0 l0.length c0] 58)) (.cells #[.slice A1 l1.length c1] 58)
    simpa using this)
  have HE := Aside0.mk hw2
  clear h hl1 hl2 hl3 hr0 hr1 hc0 hc1 hw2
  go_enter Tryd.func72, Tryd.ntmps72
  go_wp2_with (go_at_call 105; rw [← HE.out]; refine (wildA l0.length l1.length HL1.out HL2.out (partsSt l0) (partsFt l0 l1) ⟨w.heap.size, 0, none⟩ ⟨w.heap.size + 1, 0, none⟩ w2 (fun W i hb hi => parts1_calls l0 A0 c0 w.heap.size W i (Kd.C_below HC0.out (below_step HW2.out hb)) ((blk_cell (blk_below HB0.out hb) 0).trans rfl) hi) (fun W i k hb hi hk hst => parts2_calls l0 l1 A0 A1 c0 c1 w.heap.size (w.heap.size + 1) W i k _ (Kd.C_below HC0.out (below_step HW2.out hb)) (Kd.C_below HC1.out (below_step HW2.out hb)) ⟨_, blk_below HB0.out hb⟩ ⟨_, blk_below HB1.out hb⟩ hi hk (HAL.out i k hi hk hst))).mono ?_; rintro e w6 ⟨⟨b, rfl, hb⟩, hb6⟩; have HBB := Aside0.mk hb; have HW6 := Aside0.mk (below_step HW2.out hb6); clear hb hb6)
  go_ret
  refine ⟨?_, HW6.out⟩
  have : b = r := by
    rw [← HR.out, Bool.eq_iff_iff, HBB.out, fitB_fit]
  rw [this]
  rfl

/-! ### glob_Fits: function 33 -/
def glob_Fits.f (k : Nat) (a0 : ByteArray) (a1 : ByteArray) : Option (Bool × Int) := (glob_Check.f k a0).bind fun t137 => (if t137 = 0 then ((path_Check.f k a1).bind fun t138 => (if t138 = 0 then ((path_Parts.f a0).bind fun t139 => ((path_Parts.f a1).bind fun t142 => ((glob_parts.f t139 t142).bind fun t145 => (some (t145, 0))))) else (some (false, t138)))) else (some (false, t137)))
theorem glob_Fits.mono : ∀ a0 a1 k, LeO (glob_Fits.f k a0 a1) (glob_Fits.f (k + 1) a0 a1) := by
  intro a0 a1 k
  unfold glob_Fits.f
  repeat' first
      | (with_reducible exact glob_Check.mono _ _)
      | (with_reducible exact path_Check.mono _ _)
      | (with_reducible exact LeO.refl _)
      | (with_reducible exact LeO.none _)
      | (with_reducible refine LeO.ite ?_ ?_)
      | (with_reducible refine LeO.bind ?_ (fun _ => ?_))
      | exact glob_Check.mono _ _
      | exact path_Check.mono _ _
      | exact LeO.none _
      | refine LeO.ite ?_ ?_
      | refine LeO.bind ?_ (fun _ => ?_)
set_option maxHeartbeats 8000000 in
set_option maxRecDepth 100000 in
theorem glob_Fits.calls (k : Nat) (a0 : ByteArray) (a1 : ByteArray) (r1 : Bool) (r2 : Int) (w : World) (hG0_ : G_ w) (h : glob_Fits.f k a0 a1 = some (r1, r2)) :
    Calls Tryd.prog 33 #[.string a0, .string a1] w fun e w' => e = .returned (.tuple #[.bool r1, .int .i64 r2]) ∧ Below w.heap.size w w' := by
  have hG_ := Aside0.mk hG0_
  clear hG0_
  have HB := Aside0.mk (Below.refl w.heap.size w)
  have H : ((glob_Check.f k a0).bind fun t137 => (if t137 = 0 then ((path_Check.f k a1).bind fun t138 => (if t138 = 0 then ((path_Parts.f a0).bind fun t139 => ((path_Parts.f a1).bind fun t142 => ((glob_parts.f t139 t142).bind fun t145 => (some (t145, 0))))) else (some (false, t138)))) else (some (false, t137)))) = some (r1, r2) := h
  clear h
  replace H := Option.bind_eq_some_iff.mp H
  obtain ⟨t137, A30, H⟩ := H
  replace H : (if t137 = 0 then ((path_Check.f k a1).bind fun t138 => (if t138 = 0 then ((path_Parts.f a0).bind fun t139 => ((path_Parts.f a1).bind fun t142 => ((glob_parts.f t139 t142).bind fun t145 => (some (t145, 0))))) else (some (false, t138)))) else (some (false, t137))) = some (r1, r2) := H
  have A3 := Aside0.mk A30
  clear A30
  by_cases c4 : t137 = 0
  · rw [if_pos c4] at H
    have c4b0 : (t137 == 0) = true := beq_iff_eq.mpr c4
    have c4b1 : (t137 != 0) = false := bne_eq_false_iff_eq.mpr c4
    clear c4
    replace H := Option.bind_eq_some_iff.mp H
    obtain ⟨t138, A50, H⟩ := H
    replace H : (if t138 = 0 then ((path_Parts.f a0).bind fun t139 => ((path_Parts.f a1).bind fun t142 => ((glob_parts.f t139 t142).bind fun t145 => (some (t145, 0))))) else (some (false, t138))) = some (r1, r2) := H
    have A5 := Aside0.mk A50
    clear A50
    by_cases c6 : t138 = 0
    · rw [if_pos c6] at H
      have c6b0 : (t138 == 0) = true := beq_iff_eq.mpr c6
      have c6b1 : (t138 != 0) = false := bne_eq_false_iff_eq.mpr c6
      clear c6
      replace H := Option.bind_eq_some_iff.mp H
      obtain ⟨t139, A70, H⟩ := H
      replace H : ((path_Parts.f a1).bind fun t142 => ((glob_parts.f t139 t142).bind fun t145 => (some (t145, 0)))) = some (r1, r2) := H
      have A7 := Aside0.mk A70
      clear A70
      replace H := Option.bind_eq_some_iff.mp H
      obtain ⟨t142, A80, H⟩ := H
      replace H : ((glob_parts.f t139 t142).bind fun t145 => (some (t145, 0))) = some (r1, r2) := H
      have A8 := Aside0.mk A80
      clear A80
      replace H := Option.bind_eq_some_iff.mp H
      obtain ⟨t145, A90, H⟩ := H
      replace H : (some (t145, 0)) = some (r1, r2) := H
      have A9 := Aside0.mk A90
      clear A90
      simp only [Option.some.injEq, Prod.mk.injEq] at H
      obtain ⟨rfl, rfl⟩ := H
      go_enter Tryd.func33, Tryd.ntmps33
      go_wp2_with (first | ((with_reducible refine gate_callee (f := 71) rfl ?_); refine goesL_ (some 9) rfl rfl Tryd.func71 (by kernel_rfl) rfl #[.string a0] rfl (by (try simp only [List.map_toArray, List.map_cons, List.map_nil]); first | done | rfl | (simp only [List.length_drop, List.length_take]; rfl)) ?_; (with_reducible refine (glob_Check.calls k a0 t137 _ ?side1 A3.out).mono ?_); (case side1 => exact G_below hG_.out (by repeat (first | (with_reducible first | exact HB.out | apply below_alloc | apply pw_below_drewN | apply below_drew1) | exact HB.out))); rintro e w10 ⟨rfl, hb⟩; refine ⟨_, rfl, ?_⟩; have n0_ := Aside0.mk (below_step (by repeat (first | (with_reducible first | exact HB.out | apply below_alloc | apply pw_below_drewN | apply below_drew1) | exact HB.out)) hb); clear HB; have HB := n0_; clear n0_; (try clear hb); (try clear hb2); (try clear hk); (try clear hi)) | ((with_reducible refine gate_callee (f := 34) rfl ?_); refine goesL_ (some 14) rfl rfl Tryd.func34 (by kernel_rfl) rfl #[.string a1] rfl (by (try simp only [List.map_toArray, List.map_cons, List.map_nil]); first | done | rfl | (simp only [List.length_drop, List.length_take]; rfl)) ?_; (with_reducible refine (path_Check.calls k a1 t138 _ ?side1 A5.out).mono ?_); (case side1 => exact G_below hG_.out (by repeat (first | (with_reducible first | exact HB.out | apply below_alloc | apply pw_below_drewN | apply below_drew1) | exact HB.out))); rintro e w11 ⟨rfl, hb⟩; refine ⟨_, rfl, ?_⟩; have n0_ := Aside0.mk (below_step (by repeat (first | (with_reducible first | exact HB.out | apply below_alloc | apply pw_below_drewN | apply below_drew1) | exact HB.out)) hb); clear HB; have HB := n0_; clear n0_; (try clear hb); (try clear hb2); (try clear hk); (try clear hi)) | ((with_reducible refine gate_callee (f := 36) rfl ?_); refine goesL_ (some 19) rfl rfl Tryd.func36 (by kernel_rfl) rfl #[.string a0] rfl (by (try simp only [List.map_toArray, List.map_cons, List.map_nil]); first | done | rfl | (simp only [List.length_drop, List.length_take]; rfl)) ?_; (with_reducible refine (path_Parts.calls a0 t139 _ ?side1 A7.out).mono ?_); (case side1 => exact G_below hG_.out (by repeat (first | (with_reducible first | exact HB.out | apply below_alloc | apply pw_below_drewN | apply below_drew1) | exact HB.out))); rintro e w12 ⟨v140, rfl, ho0, hb⟩; refine ⟨_, rfl, ?_⟩; have n0_ := Aside0.mk (Kd.R_lower ho0 (below_size (by repeat (first | (with_reducible first | exact HB.out | apply below_alloc | apply pw_below_drewN | apply below_drew1) | exact HB.out)))); have n1_ := Aside0.mk (below_step (by repeat (first | (with_reducible first | exact HB.out | apply below_alloc | apply pw_below_drewN | apply below_drew1) | exact HB.out)) hb); clear HB; have HO141 := n0_; have HB := n1_; clear n0_ n1_; (try clear hb); (try clear hb2); (try clear hk); (try clear hi); (try clear ho0)) | ((with_reducible refine gate_callee (f := 36) rfl ?_); refine goesL_ (some 21) rfl rfl Tryd.func36 (by kernel_rfl) rfl #[.string a1] rfl (by (try simp only [List.map_toArray, List.map_cons, List.map_nil]); first | done | rfl | (simp only [List.length_drop, List.length_take]; rfl)) ?_; (with_reducible refine (path_Parts.calls a1 t142 _ ?side1 A8.out).mono ?_); (case side1 => exact G_below hG_.out (by repeat (first | (with_reducible first | exact HB.out | apply below_alloc | apply pw_below_drewN | apply below_drew1) | exact HB.out))); rintro e w13 ⟨v143, rfl, ho0, hb⟩; refine ⟨_, rfl, ?_⟩; have n0_ := Aside0.mk (Kd.R_elder' (by (with_reducible repeat (first | apply Kd.R_alloc | apply Kd.R_drewN | apply Kd.R_drew)); exact HO141.out) (Kd.R_base ho0) hb); have n1_ := Aside0.mk (Kd.R_lower (Kd.R_new' ho0 (Kd.R_lt (by (with_reducible repeat (first | apply Kd.R_alloc | apply Kd.R_drewN | apply Kd.R_drew)); exact HO141.out))) (below_size (by repeat (first | (with_reducible first | exact HB.out | apply below_alloc | apply pw_below_drewN | apply below_drew1) | exact HB.out)))); have n2_ := Aside0.mk (below_step (by repeat (first | (with_reducible first | exact HB.out | apply below_alloc | apply pw_below_drewN | apply below_drew1) | exact HB.out)) hb); clear HO141; clear HB; have HO141 := n0_; have HO144 := n1_; have HB := n2_; clear n0_ n1_ n2_; (try clear hb); (try clear hb2); (try clear hk); (try clear hi); (try clear ho0); obtain ⟨Ao14, co14, eo14⟩ := Kd.R_slice HO141.out; subst eo14; obtain ⟨Ao15, co15, eo15⟩ := Kd.R_slice HO144.out; subst eo15) | ((with_reducible refine gate_callee (f := 72) rfl ?_); refine goesL_ (some 22) rfl rfl Tryd.func72 (by kernel_rfl) rfl #[.slice Ao14 t139.length co14, .slice Ao15 t142.length co15] rfl (by (try simp only [List.map_toArray, List.map_cons, List.map_nil]); first | done | rfl | (simp only [List.length_drop, List.length_take]; rfl)) ?_; (with_reducible refine (glob_parts.calls _ _ t139 _ _ t142 t145 _ ?side1 ?side2 ?side3 ?side4 A9.out).mono ?_); (case side1 => repeat (first | exact (Kd.R_reads' HO141.out).2.2 | (with_reducible refine Kd.C_alloc ?_ _) | (with_reducible refine Kd.C_drewN ?_ _) | (with_reducible refine Kd.C_drew ?_))); (case side2 => exact (Kd.R_reads' HO141.out).2.1); (case side3 => repeat (first | exact (Kd.R_reads' HO144.out).2.2 | (with_reducible refine Kd.C_alloc ?_ _) | (with_reducible refine Kd.C_drewN ?_ _) | (with_reducible refine Kd.C_drew ?_))); (case side4 => exact (Kd.R_reads' HO144.out).2.1); rintro e w16 ⟨rfl, hb⟩; refine ⟨_, rfl, ?_⟩; have n0_ := Aside0.mk (Kd.R_below (by (with_reducible repeat (first | apply Kd.R_alloc | apply Kd.R_drewN | apply Kd.R_drew)); exact HO141.out) hb); have n1_ := Aside0.mk (Kd.R_below (by (with_reducible repeat (first | apply Kd.R_alloc | apply Kd.R_drewN | apply Kd.R_drew)); exact HO144.out) hb); have n2_ := Aside0.mk (below_step (by repeat (first | (with_reducible first | exact HB.out | apply below_alloc | apply pw_below_drewN | apply below_drew1) | exact HB.out)) hb); clear HO141; clear HO144; clear HB; have HO141 := n0_; have HO144 := n1_; have HB := n2_; clear n0_ n1_ n2_; (try clear hb); (try clear hb2); (try clear hk); (try clear hi)))
      go_ret2
      exact ⟨by first | rfl | (simp [errW_none, errW_some] <;> rfl) | (simp [*, errW_none, errW_some] <;> rfl) | (simp [errW_none, errW_some] <;> (generalize ByteArray.toList _ = l_ <;> cases l_ <;> rfl)), by repeat (first | (with_reducible first | exact HB.out | apply below_alloc | apply pw_below_drewN | apply below_drew1) | exact HB.out)⟩
    · rw [if_neg c6] at H
      have c6b0 : (t138 == 0) = false := beq_eq_false_iff_ne.mpr c6
      have c6b1 : (t138 != 0) = true := bne_iff_ne.mpr c6
      simp only [Option.some.injEq, Prod.mk.injEq] at H
      obtain ⟨rfl, rfl⟩ := H
      go_enter Tryd.func33, Tryd.ntmps33
      go_wp2_with (first | ((with_reducible refine gate_callee (f := 71) rfl ?_); refine goesL_ (some 9) rfl rfl Tryd.func71 (by kernel_rfl) rfl #[.string a0] rfl (by (try simp only [List.map_toArray, List.map_cons, List.map_nil]); first | done | rfl | (simp only [List.length_drop, List.length_take]; rfl)) ?_; (with_reducible refine (glob_Check.calls k a0 t137 _ ?side1 A3.out).mono ?_); (case side1 => exact G_below hG_.out (by repeat (first | (with_reducible first | exact HB.out | apply below_alloc | apply pw_below_drewN | apply below_drew1) | exact HB.out))); rintro e w17 ⟨rfl, hb⟩; refine ⟨_, rfl, ?_⟩; have n0_ := Aside0.mk (below_step (by repeat (first | (with_reducible first | exact HB.out | apply below_alloc | apply pw_below_drewN | apply below_drew1) | exact HB.out)) hb); clear HB; have HB := n0_; clear n0_; (try clear hb); (try clear hb2); (try clear hk); (try clear hi)) | ((with_reducible refine gate_callee (f := 34) rfl ?_); refine goesL_ (some 14) rfl rfl Tryd.func34 (by kernel_rfl) rfl #[.string a1] rfl (by (try simp only [List.map_toArray, List.map_cons, List.map_nil]); first | done | rfl | (simp only [List.length_drop, List.length_take]; rfl)) ?_; (with_reducible refine (path_Check.calls k a1 t138 _ ?side1 A5.out).mono ?_); (case side1 => exact G_below hG_.out (by repeat (first | (with_reducible first | exact HB.out | apply below_alloc | apply pw_below_drewN | apply below_drew1) | exact HB.out))); rintro e w18 ⟨rfl, hb⟩; refine ⟨_, rfl, ?_⟩; have n0_ := Aside0.mk (below_step (by repeat (first | (with_reducible first | exact HB.out | apply below_alloc | apply pw_below_drewN | apply below_drew1) | exact HB.out)) hb); clear HB; have HB := n0_; clear n0_; (try clear hb); (try clear hb2); (try clear hk); (try clear hi)))
      go_ret2
      exact ⟨by first | rfl | (simp [errW_none, errW_some] <;> rfl) | (simp [*, errW_none, errW_some] <;> rfl) | (simp [errW_none, errW_some] <;> (generalize ByteArray.toList _ = l_ <;> cases l_ <;> rfl)), by repeat (first | (with_reducible first | exact HB.out | apply below_alloc | apply pw_below_drewN | apply below_drew1) | exact HB.out)⟩
  · rw [if_neg c4] at H
    have c4b0 : (t137 == 0) = false := beq_eq_false_iff_ne.mpr c4
    have c4b1 : (t137 != 0) = true := bne_iff_ne.mpr c4
    simp only [Option.some.injEq, Prod.mk.injEq] at H
    obtain ⟨rfl, rfl⟩ := H
    go_enter Tryd.func33, Tryd.ntmps33
    go_wp2_with (first | ((with_reducible refine gate_callee (f := 71) rfl ?_); refine goesL_ (some 9) rfl rfl Tryd.func71 (by kernel_rfl) rfl #[.string a0] rfl (by (try simp only [List.map_toArray, List.map_cons, List.map_nil]); first | done | rfl | (simp only [List.length_drop, List.length_take]; rfl)) ?_; (with_reducible refine (glob_Check.calls k a0 t137 _ ?side1 A3.out).mono ?_); (case side1 => exact G_below hG_.out (by repeat (first | (with_reducible first | exact HB.out | apply below_alloc | apply pw_below_drewN | apply below_drew1) | exact HB.out))); rintro e w19 ⟨rfl, hb⟩; refine ⟨_, rfl, ?_⟩; have n0_ := Aside0.mk (below_step (by repeat (first | (with_reducible first | exact HB.out | apply below_alloc | apply pw_below_drewN | apply below_drew1) | exact HB.out)) hb); clear HB; have HB := n0_; clear n0_; (try clear hb); (try clear hb2); (try clear hk); (try clear hi)))
    go_ret2
    exact ⟨by first | rfl | (simp [errW_none, errW_some] <;> rfl) | (simp [*, errW_none, errW_some] <;> rfl) | (simp [errW_none, errW_some] <;> (generalize ByteArray.toList _ = l_ <;> cases l_ <;> rfl)), by repeat (first | (with_reducible first | exact HB.out | apply below_alloc | apply pw_below_drewN | apply below_drew1) | exact HB.out)⟩

/-! ### creelkeep_GlobSelf: function 10 -/
def creelkeep_GlobSelf.f (k : Nat) (l0 : List (S23)) (a1 : Int) (a2 : Int) : Option (Bool) := (creelkeep_paths.f l0 20).bind fun t146 => ((creelkeep_picked.f a1 (t146.length : Int)).bind fun t149 => (if 0 ≤ t149 then (if t149 < (t146.length : Int) then ((creelkeep_picked.f a2 (t146.length : Int)).bind fun t151 => (if 0 ≤ t151 then (if t151 < (t146.length : Int) then ((glob_Fits.f k (rdOf ByteArray.empty t146 t149) (rdOf ByteArray.empty t146 t151)).bind fun bt153 => ((glob_Fits.f k (rdOf ByteArray.empty t146 t149) (rdOf ByteArray.empty t146 t149)).bind fun bt155 => (if bt153.2 = 0 then (if bt155.2 = 0 then (if bt155.1 = true then (some (bt153.1 == ((rdOf ByteArray.empty t146 t149).toList == (rdOf ByteArray.empty t146 t151).toList))) else (some false)) else (some false)) else (some false)))) else (none)) else (none))) else (none)) else (none)))
theorem creelkeep_GlobSelf.mono : ∀ a0 a1 a2 k, LeO (creelkeep_GlobSelf.f k a0 a1 a2) (creelkeep_GlobSelf.f (k + 1) a0 a1 a2) := by
  intro a0 a1 a2 k
  unfold creelkeep_GlobSelf.f
  repeat' first
      | (with_reducible exact glob_Fits.mono _ _ _)
      | (with_reducible exact LeO.refl _)
      | (with_reducible exact LeO.none _)
      | (with_reducible refine LeO.ite ?_ ?_)
      | (with_reducible refine LeO.bind ?_ (fun _ => ?_))
      | exact glob_Fits.mono _ _ _
      | exact LeO.none _
      | refine LeO.ite ?_ ?_
      | refine LeO.bind ?_ (fun _ => ?_)
set_option maxHeartbeats 8000000 in
set_option maxRecDepth 100000 in
theorem creelkeep_GlobSelf.calls (k : Nat) (A0 : Option Addr) (c0 : Nat) (l0 : List (S23)) (a1 : Int) (a2 : Int) (r : Bool) (w : World) (hr0 : Kd.C k23 w A0 l0.length l0) (hc0 : l0.length ≤ c0) (hG0_ : G_ w) (h : creelkeep_GlobSelf.f k l0 a1 a2 = some r) :
    Calls Tryd.prog 10 #[.slice A0 l0.length c0, .int .i64 a1, .int .i64 a2] w fun e w' => e = .returned (.bool r) ∧ Below w.heap.size w w' := by
  have hG_ := Aside0.mk hG0_
  clear hG0_
  have HR0 := Aside0.mk hr0
  have HC0 := Aside0.mk hc0
  clear hr0 hc0
  have HB := Aside0.mk (Below.refl w.heap.size w)
  have H : ((creelkeep_paths.f l0 20).bind fun t146 => ((creelkeep_picked.f a1 (t146.length : Int)).bind fun t149 => (if 0 ≤ t149 then (if t149 < (t146.length : Int) then ((creelkeep_picked.f a2 (t146.length : Int)).bind fun t151 => (if 0 ≤ t151 then (if t151 < (t146.length : Int) then ((glob_Fits.f k (rdOf ByteArray.empty t146 t149) (rdOf ByteArray.empty t146 t151)).bind fun bt153 => ((glob_Fits.f k (rdOf ByteArray.empty t146 t149) (rdOf ByteArray.empty t146 t149)).bind fun bt155 => (if bt153.2 = 0 then (if bt155.2 = 0 then (if bt155.1 = true then (some (bt153.1 == ((rdOf ByteArray.empty t146 t149).toList == (rdOf ByteArray.empty t146 t151).toList))) else (some false)) else (some false)) else (some false)))) else (none)) else (none))) else (none)) else (none)))) = some r := h
  clear h
  replace H := Option.bind_eq_some_iff.mp H
  obtain ⟨t146, A40, H⟩ := H
  replace H : ((creelkeep_picked.f a1 (t146.length : Int)).bind fun t149 => (if 0 ≤ t149 then (if t149 < (t146.length : Int) then ((creelkeep_picked.f a2 (t146.length : Int)).bind fun t151 => (if 0 ≤ t151 then (if t151 < (t146.length : Int) then ((glob_Fits.f k (rdOf ByteArray.empty t146 t149) (rdOf ByteArray.empty t146 t151)).bind fun bt153 => ((glob_Fits.f k (rdOf ByteArray.empty t146 t149) (rdOf ByteArray.empty t146 t149)).bind fun bt155 => (if bt153.2 = 0 then (if bt155.2 = 0 then (if bt155.1 = true then (some (bt153.1 == ((rdOf ByteArray.empty t146 t149).toList == (rdOf ByteArray.empty t146 t151).toList))) else (some false)) else (some false)) else (some false)))) else (none)) else (none))) else (none)) else (none))) = some r := H
  have A4 := Aside0.mk A40
  clear A40
  replace H := Option.bind_eq_some_iff.mp H
  obtain ⟨t149, A50, H⟩ := H
  replace H : (if 0 ≤ t149 then (if t149 < (t146.length : Int) then ((creelkeep_picked.f a2 (t146.length : Int)).bind fun t151 => (if 0 ≤ t151 then (if t151 < (t146.length : Int) then ((glob_Fits.f k (rdOf ByteArray.empty t146 t149) (rdOf ByteArray.empty t146 t151)).bind fun bt153 => ((glob_Fits.f k (rdOf ByteArray.empty t146 t149) (rdOf ByteArray.empty t146 t149)).bind fun bt155 => (if bt153.2 = 0 then (if bt155.2 = 0 then (if bt155.1 = true then (some (bt153.1 == ((rdOf ByteArray.empty t146 t149).toList == (rdOf ByteArray.empty t146 t151).toList))) else (some false)) else (some false)) else (some false)))) else (none)) else (none))) else (none)) else (none)) = some r := H
  have A5 := Aside0.mk A50
  clear A50
  by_cases c6 : 0 ≤ t149
  · rw [if_pos c6] at H
    have c6b0 : decide (0 ≤ t149) = true := decide_eq_true c6
    clear c6
    by_cases c7 : t149 < (t146.length : Int)
    · rw [if_pos c7] at H
      have c7b0 : decide (t149 < (t146.length : Int)) = true := decide_eq_true c7
      clear c7
      replace H := Option.bind_eq_some_iff.mp H
      obtain ⟨t151, A80, H⟩ := H
      replace H : (if 0 ≤ t151 then (if t151 < (t146.length : Int) then ((glob_Fits.f k (rdOf ByteArray.empty t146 t149) (rdOf ByteArray.empty t146 t151)).bind fun bt153 => ((glob_Fits.f k (rdOf ByteArray.empty t146 t149) (rdOf ByteArray.empty t146 t149)).bind fun bt155 => (if bt153.2 = 0 then (if bt155.2 = 0 then (if bt155.1 = true then (some (bt153.1 == ((rdOf ByteArray.empty t146 t149).toList == (rdOf ByteArray.empty t146 t151).toList))) else (some false)) else (some false)) else (some false)))) else (none)) else (none)) = some r := H
      have A8 := Aside0.mk A80
      clear A80
      by_cases c9 : 0 ≤ t151
      · rw [if_pos c9] at H
        have c9b0 : decide (0 ≤ t151) = true := decide_eq_true c9
        clear c9
        by_cases c10 : t151 < (t146.length : Int)
        · rw [if_pos c10] at H
          have c10b0 : decide (t151 < (t146.length : Int)) = true := decide_eq_true c10
          clear c10
          replace H := Option.bind_eq_some_iff.mp H
          obtain ⟨⟨t153, t154⟩, A110, H⟩ := H
          replace H : ((glob_Fits.f k (rdOf ByteArray.empty t146 t149) (rdOf ByteArray.empty t146 t149)).bind fun bt155 => (if t154 = 0 then (if bt155.2 = 0 then (if bt155.1 = true then (some (t153 == ((rdOf ByteArray.empty t146 t149).toList == (rdOf ByteArray.empty t146 t151).toList))) else (some false)) else (some false)) else (some false))) = some r := H
          have A11 := Aside0.mk A110
          clear A110
          replace H := Option.bind_eq_some_iff.mp H
          obtain ⟨⟨t155, t156⟩, A120, H⟩ := H
          replace H : (if t154 = 0 then (if t156 = 0 then (if t155 = true then (some (t153 == ((rdOf ByteArray.empty t146 t149).toList == (rdOf ByteArray.empty t146 t151).toList))) else (some false)) else (some false)) else (some false)) = some r := H
          have A12 := Aside0.mk A120
          clear A120
          by_cases c13 : t154 = 0
          · rw [if_pos c13] at H
            have c13b0 : (t154 == 0) = true := beq_iff_eq.mpr c13
            have c13b1 : (t154 != 0) = false := bne_eq_false_iff_eq.mpr c13
            clear c13
            by_cases c14 : t156 = 0
            · rw [if_pos c14] at H
              have c14b0 : (t156 == 0) = true := beq_iff_eq.mpr c14
              have c14b1 : (t156 != 0) = false := bne_eq_false_iff_eq.mpr c14
              clear c14
              by_cases c15 : t155 = true
              · subst c15
                have H1 : (some (t153 == ((rdOf ByteArray.empty t146 t149).toList == (rdOf ByteArray.empty t146 t151).toList))) = some r := by rw [if_pos rfl] at H; exact H
                clear H
                have H := H1
                clear H1
                obtain rfl := Option.some.inj H
                go_enter Tryd.func10, Tryd.ntmps10
                go_wp2_with (first | (go_at_call 30; (with_reducible refine (creelkeep_paths.calls _ _ l0 20 t146 _ ?side1 ?side2 ?side3 A4.out).mono ?_); (case side1 => repeat (first | exact HR0.out | (with_reducible refine Kd.C_alloc ?_ _) | (with_reducible refine Kd.C_drewN ?_ _) | (with_reducible refine Kd.C_drew ?_))); (case side2 => exact HC0.out); (case side3 => exact G_below hG_.out (by repeat (first | (with_reducible first | exact HB.out | apply below_alloc | apply pw_below_drewN | apply below_drew1) | exact HB.out))); rintro e w16 ⟨v147, rfl, ho0, hb⟩; have n0_ := Aside0.mk (Kd.R_lower ho0 (below_size (by repeat (first | (with_reducible first | exact HB.out | apply below_alloc | apply pw_below_drewN | apply below_drew1) | exact HB.out)))); have n1_ := Aside0.mk (below_step (by repeat (first | (with_reducible first | exact HB.out | apply below_alloc | apply pw_below_drewN | apply below_drew1) | exact HB.out)) hb); clear HB; have HO148 := n0_; have HB := n1_; clear n0_ n1_; (try clear hb); (try clear hb2); (try clear hk); (try clear hi); (try clear ho0); obtain ⟨Ao17, co17, eo17⟩ := Kd.R_slice HO148.out; subst eo17) | (go_at_call 24; (with_reducible refine (creelkeep_picked.calls a1 (t146.length : Int) t149 _ A5.out).mono ?_); rintro e w' ⟨rfl, ⟨nd, rfl⟩⟩; (try first | exact ⟨rfl, _, World.drewN_drewN _ _ _⟩ | exact ⟨rfl, _, Eq.trans (World.drewN_drewN _ _ _) (congrArg (World.drewN _) (Nat.add_assoc _ _ _))⟩); have p150 : 0 ≤ (t149 : Int) := of_decide_eq_true (by first | (with_reducible assumption) | assumption); have q150 : t149 < (t146.length : Int) := of_decide_eq_true (by first | (with_reducible assumption) | assumption); obtain ⟨ad150, e150, hx150_0⟩ := Kd.at_string (Kd.R_reads' HO148.out).2.2 t149 p150 q150; cases e150; replace p150 := eq_true p150; replace q150 := eq_true q150) | (go_at_call 24; (with_reducible refine (creelkeep_picked.calls a2 (t146.length : Int) t151 _ A8.out).mono ?_); rintro e w' ⟨rfl, ⟨nd, rfl⟩⟩; (try first | exact ⟨rfl, _, World.drewN_drewN _ _ _⟩ | exact ⟨rfl, _, Eq.trans (World.drewN_drewN _ _ _) (congrArg (World.drewN _) (Nat.add_assoc _ _ _))⟩); have p152 : 0 ≤ (t151 : Int) := of_decide_eq_true (by first | (with_reducible assumption) | assumption); have q152 : t151 < (t146.length : Int) := of_decide_eq_true (by first | (with_reducible assumption) | assumption); obtain ⟨ad152, e152, hx152_0⟩ := Kd.at_string (Kd.R_reads' HO148.out).2.2 t151 p152 q152; obtain rfl : ad150 = ad152 := (by injection e152); replace p152 := eq_true p152; replace q152 := eq_true q152) | (go_at_call 33; (with_reducible refine (glob_Fits.calls k (rdOf ByteArray.empty t146 t149) (rdOf ByteArray.empty t146 t151) t153 t154 _ ?side1 A11.out).mono ?_); (case side1 => exact G_below hG_.out (by repeat (first | (with_reducible first | exact HB.out | apply below_alloc | apply pw_below_drewN | apply below_drew1) | exact HB.out))); rintro e w18 ⟨rfl, hb⟩; have n0_ := Aside0.mk (Kd.R_below (by (with_reducible repeat (first | apply Kd.R_alloc | apply Kd.R_drewN | apply Kd.R_drew)); exact HO148.out) hb); have n1_ := Aside0.mk (below_step (by repeat (first | (with_reducible first | exact HB.out | apply below_alloc | apply pw_below_drewN | apply below_drew1) | exact HB.out)) hb); clear HO148; clear HB; have HO148 := n0_; have HB := n1_; clear n0_ n1_; (try clear hb); (try clear hb2); (try clear hk); (try clear hi)) | (go_at_call 33; (with_reducible refine (glob_Fits.calls k (rdOf ByteArray.empty t146 t149) (rdOf ByteArray.empty t146 t149) true t156 _ ?side1 A12.out).mono ?_); (case side1 => exact G_below hG_.out (by repeat (first | (with_reducible first | exact HB.out | apply below_alloc | apply pw_below_drewN | apply below_drew1) | exact HB.out))); rintro e w19 ⟨rfl, hb⟩; have n0_ := Aside0.mk (Kd.R_below (by (with_reducible repeat (first | apply Kd.R_alloc | apply Kd.R_drewN | apply Kd.R_drew)); exact HO148.out) hb); have n1_ := Aside0.mk (below_step (by repeat (first | (with_reducible first | exact HB.out | apply below_alloc | apply pw_below_drewN | apply below_drew1) | exact HB.out)) hb); clear HO148; clear HB; have HO148 := n0_; have HB := n1_; clear n0_ n1_; (try clear hb); (try clear hb2); (try clear hk); (try clear hi)))
                repeat (go_quiet (first | (go_at_call 30; (with_reducible refine (creelkeep_paths.calls _ _ l0 20 t146 _ ?side1 ?side2 ?side3 A4.out).mono ?_); (case side1 => repeat (first | exact HR0.out | (with_reducible refine Kd.C_alloc ?_ _) | (with_reducible refine Kd.C_drewN ?_ _) | (with_reducible refine Kd.C_drew ?_))); (case side2 => exact HC0.out); (case side3 => exact G_below hG_.out (by repeat (first | (with_reducible first | exact HB.out | apply below_alloc | apply pw_below_drewN | apply below_drew1) | exact HB.out))); rintro e w16 ⟨v147, rfl, ho0, hb⟩; have n0_ := Aside0.mk (Kd.R_lower ho0 (below_size (by repeat (first | (with_reducible first | exact HB.out | apply below_alloc | apply pw_below_drewN | apply below_drew1) | exact HB.out)))); have n1_ := Aside0.mk (below_step (by repeat (first | (with_reducible first | exact HB.out | apply below_alloc | apply pw_below_drewN | apply below_drew1) | exact HB.out)) hb); clear HB; have HO148 := n0_; have HB := n1_; clear n0_ n1_; (try clear hb); (try clear hb2); (try clear hk); (try clear hi); (try clear ho0); obtain ⟨Ao17, co17, eo17⟩ := Kd.R_slice HO148.out; subst eo17) | (go_at_call 24; (with_reducible refine (creelkeep_picked.calls a1 (t146.length : Int) t149 _ A5.out).mono ?_); rintro e w' ⟨rfl, ⟨nd, rfl⟩⟩; (try first | exact ⟨rfl, _, World.drewN_drewN _ _ _⟩ | exact ⟨rfl, _, Eq.trans (World.drewN_drewN _ _ _) (congrArg (World.drewN _) (Nat.add_assoc _ _ _))⟩); have p150 : 0 ≤ (t149 : Int) := of_decide_eq_true (by first | (with_reducible assumption) | assumption); have q150 : t149 < (t146.length : Int) := of_decide_eq_true (by first | (with_reducible assumption) | assumption); obtain ⟨ad150, e150, hx150_0⟩ := Kd.at_string (Kd.R_reads' HO148.out).2.2 t149 p150 q150; cases e150; replace p150 := eq_true p150; replace q150 := eq_true q150) | (go_at_call 24; (with_reducible refine (creelkeep_picked.calls a2 (t146.length : Int) t151 _ A8.out).mono ?_); rintro e w' ⟨rfl, ⟨nd, rfl⟩⟩; (try first | exact ⟨rfl, _, World.drewN_drewN _ _ _⟩ | exact ⟨rfl, _, Eq.trans (World.drewN_drewN _ _ _) (congrArg (World.drewN _) (Nat.add_assoc _ _ _))⟩); have p152 : 0 ≤ (t151 : Int) := of_decide_eq_true (by first | (with_reducible assumption) | assumption); have q152 : t151 < (t146.length : Int) := of_decide_eq_true (by first | (with_reducible assumption) | assumption); obtain ⟨ad152, e152, hx152_0⟩ := Kd.at_string (Kd.R_reads' HO148.out).2.2 t151 p152 q152; obtain rfl : ad150 = ad152 := (by injection e152); replace p152 := eq_true p152; replace q152 := eq_true q152) | (go_at_call 33; (with_reducible refine (glob_Fits.calls k (rdOf ByteArray.empty t146 t149) (rdOf ByteArray.empty t146 t151) t153 t154 _ ?side1 A11.out).mono ?_); (case side1 => exact G_below hG_.out (by repeat (first | (with_reducible first | exact HB.out | apply below_alloc | apply pw_below_drewN | apply below_drew1) | exact HB.out))); rintro e w18 ⟨rfl, hb⟩; have n0_ := Aside0.mk (Kd.R_below (by (with_reducible repeat (first | apply Kd.R_alloc | apply Kd.R_drewN | apply Kd.R_drew)); exact HO148.out) hb); have n1_ := Aside0.mk (below_step (by repeat (first | (with_reducible first | exact HB.out | apply below_alloc | apply pw_below_drewN | apply below_drew1) | exact HB.out)) hb); clear HO148; clear HB; have HO148 := n0_; have HB := n1_; clear n0_ n1_; (try clear hb); (try clear hb2); (try clear hk); (try clear hi)) | (go_at_call 33; (with_reducible refine (glob_Fits.calls k (rdOf ByteArray.empty t146 t149) (rdOf ByteArray.empty t146 t149) true t156 _ ?side1 A12.out).mono ?_); (case side1 => exact G_below hG_.out (by repeat (first | (with_reducible first | exact HB.out | apply below_alloc | apply pw_below_drewN | apply below_drew1) | exact HB.out))); rintro e w19 ⟨rfl, hb⟩; have n0_ := Aside0.mk (Kd.R_below (by (with_reducible repeat (first | apply Kd.R_alloc | apply Kd.R_drewN | apply Kd.R_drew)); exact HO148.out) hb); have n1_ := Aside0.mk (below_step (by repeat (first | (with_reducible first | exact HB.out | apply below_alloc | apply pw_below_drewN | apply below_drew1) | exact HB.out)) hb); clear HO148; clear HB; have HO148 := n0_; have HB := n1_; clear n0_ n1_; (try clear hb); (try clear hb2); (try clear hk); (try clear hi))); try go_wp2_with (first | (go_at_call 30; (with_reducible refine (creelkeep_paths.calls _ _ l0 20 t146 _ ?side1 ?side2 ?side3 A4.out).mono ?_); (case side1 => repeat (first | exact HR0.out | (with_reducible refine Kd.C_alloc ?_ _) | (with_reducible refine Kd.C_drewN ?_ _) | (with_reducible refine Kd.C_drew ?_))); (case side2 => exact HC0.out); (case side3 => exact G_below hG_.out (by repeat (first | (with_reducible first | exact HB.out | apply below_alloc | apply pw_below_drewN | apply below_drew1) | exact HB.out))); rintro e w16 ⟨v147, rfl, ho0, hb⟩; have n0_ := Aside0.mk (Kd.R_lower ho0 (below_size (by repeat (first | (with_reducible first | exact HB.out | apply below_alloc | apply pw_below_drewN | apply below_drew1) | exact HB.out)))); have n1_ := Aside0.mk (below_step (by repeat (first | (with_reducible first | exact HB.out | apply below_alloc | apply pw_below_drewN | apply below_drew1) | exact HB.out)) hb); clear HB; have HO148 := n0_; have HB := n1_; clear n0_ n1_; (try clear hb); (try clear hb2); (try clear hk); (try clear hi); (try clear ho0); obtain ⟨Ao17, co17, eo17⟩ := Kd.R_slice HO148.out; subst eo17) | (go_at_call 24; (with_reducible refine (creelkeep_picked.calls a1 (t146.length : Int) t149 _ A5.out).mono ?_); rintro e w' ⟨rfl, ⟨nd, rfl⟩⟩; (try first | exact ⟨rfl, _, World.drewN_drewN _ _ _⟩ | exact ⟨rfl, _, Eq.trans (World.drewN_drewN _ _ _) (congrArg (World.drewN _) (Nat.add_assoc _ _ _))⟩); have p150 : 0 ≤ (t149 : Int) := of_decide_eq_true (by first | (with_reducible assumption) | assumption); have q150 : t149 < (t146.length : Int) := of_decide_eq_true (by first | (with_reducible assumption) | assumption); obtain ⟨ad150, e150, hx150_0⟩ := Kd.at_string (Kd.R_reads' HO148.out).2.2 t149 p150 q150; cases e150; replace p150 := eq_true p150; replace q150 := eq_true q150) | (go_at_call 24; (with_reducible refine (creelkeep_picked.calls a2 (t146.length : Int) t151 _ A8.out).mono ?_); rintro e w' ⟨rfl, ⟨nd, rfl⟩⟩; (try first | exact ⟨rfl, _, World.drewN_drewN _ _ _⟩ | exact ⟨rfl, _, Eq.trans (World.drewN_drewN _ _ _) (congrArg (World.drewN _) (Nat.add_assoc _ _ _))⟩); have p152 : 0 ≤ (t151 : Int) := of_decide_eq_true (by first | (with_reducible assumption) | assumption); have q152 : t151 < (t146.length : Int) := of_decide_eq_true (by first | (with_reducible assumption) | assumption); obtain ⟨ad152, e152, hx152_0⟩ := Kd.at_string (Kd.R_reads' HO148.out).2.2 t151 p152 q152; obtain rfl : ad150 = ad152 := (by injection e152); replace p152 := eq_true p152; replace q152 := eq_true q152) | (go_at_call 33; (with_reducible refine (glob_Fits.calls k (rdOf ByteArray.empty t146 t149) (rdOf ByteArray.empty t146 t151) t153 t154 _ ?side1 A11.out).mono ?_); (case side1 => exact G_below hG_.out (by repeat (first | (with_reducible first | exact HB.out | apply below_alloc | apply pw_below_drewN | apply below_drew1) | exact HB.out))); rintro e w18 ⟨rfl, hb⟩; have n0_ := Aside0.mk (Kd.R_below (by (with_reducible repeat (first | apply Kd.R_alloc | apply Kd.R_drewN | apply Kd.R_drew)); exact HO148.out) hb); have n1_ := Aside0.mk (below_step (by repeat (first | (with_reducible first | exact HB.out | apply below_alloc | apply pw_below_drewN | apply below_drew1) | exact HB.out)) hb); clear HO148; clear HB; have HO148 := n0_; have HB := n1_; clear n0_ n1_; (try clear hb); (try clear hb2); (try clear hk); (try clear hi)) | (go_at_call 33; (with_reducible refine (glob_Fits.calls k (rdOf ByteArray.empty t146 t149) (rdOf ByteArray.empty t146 t149) true t156 _ ?side1 A12.out).mono ?_); (case side1 => exact G_below hG_.out (by repeat (first | (with_reducible first | exact HB.out | apply below_alloc | apply pw_below_drewN | apply below_drew1) | exact HB.out))); rintro e w19 ⟨rfl, hb⟩; have n0_ := Aside0.mk (Kd.R_below (by (with_reducible repeat (first | apply Kd.R_alloc | apply Kd.R_drewN | apply Kd.R_drew)); exact HO148.out) hb); have n1_ := Aside0.mk (below_step (by repeat (first | (with_reducible first | exact HB.out | apply below_alloc | apply pw_below_drewN | apply below_drew1) | exact HB.out)) hb); clear HO148; clear HB; have HO148 := n0_; have HB := n1_; clear n0_ n1_; (try clear hb); (try clear hb2); (try clear hk); (try clear hi))))
                all_goals go_ret
                all_goals exact ⟨by first | rfl | (simp [errW_none, errW_some] <;> rfl) | (simp [*, errW_none, errW_some] <;> rfl) | (simp [errW_none, errW_some] <;> (generalize ByteArray.toList _ = l_ <;> cases l_ <;> rfl)), by repeat (first | (with_reducible first | exact HB.out | apply below_alloc | apply pw_below_drewN | apply below_drew1) | exact HB.out)⟩
              · replace c15 := Bool.eq_false_iff.mpr c15
                subst c15
                have H1 : (some false) = some r := by rw [if_neg (show ¬ (false = true) by decide)] at H; exact H
                clear H
                have H := H1
                clear H1
                obtain rfl := Option.some.inj H
                go_enter Tryd.func10, Tryd.ntmps10
                go_wp2_with (first | (go_at_call 30; (with_reducible refine (creelkeep_paths.calls _ _ l0 20 t146 _ ?side1 ?side2 ?side3 A4.out).mono ?_); (case side1 => repeat (first | exact HR0.out | (with_reducible refine Kd.C_alloc ?_ _) | (with_reducible refine Kd.C_drewN ?_ _) | (with_reducible refine Kd.C_drew ?_))); (case side2 => exact HC0.out); (case side3 => exact G_below hG_.out (by repeat (first | (with_reducible first | exact HB.out | apply below_alloc | apply pw_below_drewN | apply below_drew1) | exact HB.out))); rintro e w20 ⟨v147, rfl, ho0, hb⟩; have n0_ := Aside0.mk (Kd.R_lower ho0 (below_size (by repeat (first | (with_reducible first | exact HB.out | apply below_alloc | apply pw_below_drewN | apply below_drew1) | exact HB.out)))); have n1_ := Aside0.mk (below_step (by repeat (first | (with_reducible first | exact HB.out | apply below_alloc | apply pw_below_drewN | apply below_drew1) | exact HB.out)) hb); clear HB; have HO148 := n0_; have HB := n1_; clear n0_ n1_; (try clear hb); (try clear hb2); (try clear hk); (try clear hi); (try clear ho0); obtain ⟨Ao21, co21, eo21⟩ := Kd.R_slice HO148.out; subst eo21) | (go_at_call 24; (with_reducible refine (creelkeep_picked.calls a1 (t146.length : Int) t149 _ A5.out).mono ?_); rintro e w' ⟨rfl, ⟨nd, rfl⟩⟩; (try first | exact ⟨rfl, _, World.drewN_drewN _ _ _⟩ | exact ⟨rfl, _, Eq.trans (World.drewN_drewN _ _ _) (congrArg (World.drewN _) (Nat.add_assoc _ _ _))⟩); have p150 : 0 ≤ (t149 : Int) := of_decide_eq_true (by first | (with_reducible assumption) | assumption); have q150 : t149 < (t146.length : Int) := of_decide_eq_true (by first | (with_reducible assumption) | assumption); obtain ⟨ad150, e150, hx150_0⟩ := Kd.at_string (Kd.R_reads' HO148.out).2.2 t149 p150 q150; cases e150; replace p150 := eq_true p150; replace q150 := eq_true q150) | (go_at_call 24; (with_reducible refine (creelkeep_picked.calls a2 (t146.length : Int) t151 _ A8.out).mono ?_); rintro e w' ⟨rfl, ⟨nd, rfl⟩⟩; (try first | exact ⟨rfl, _, World.drewN_drewN _ _ _⟩ | exact ⟨rfl, _, Eq.trans (World.drewN_drewN _ _ _) (congrArg (World.drewN _) (Nat.add_assoc _ _ _))⟩); have p152 : 0 ≤ (t151 : Int) := of_decide_eq_true (by first | (with_reducible assumption) | assumption); have q152 : t151 < (t146.length : Int) := of_decide_eq_true (by first | (with_reducible assumption) | assumption); obtain ⟨ad152, e152, hx152_0⟩ := Kd.at_string (Kd.R_reads' HO148.out).2.2 t151 p152 q152; obtain rfl : ad150 = ad152 := (by injection e152); replace p152 := eq_true p152; replace q152 := eq_true q152) | (go_at_call 33; (with_reducible refine (glob_Fits.calls k (rdOf ByteArray.empty t146 t149) (rdOf ByteArray.empty t146 t151) t153 t154 _ ?side1 A11.out).mono ?_); (case side1 => exact G_below hG_.out (by repeat (first | (with_reducible first | exact HB.out | apply below_alloc | apply pw_below_drewN | apply below_drew1) | exact HB.out))); rintro e w22 ⟨rfl, hb⟩; have n0_ := Aside0.mk (Kd.R_below (by (with_reducible repeat (first | apply Kd.R_alloc | apply Kd.R_drewN | apply Kd.R_drew)); exact HO148.out) hb); have n1_ := Aside0.mk (below_step (by repeat (first | (with_reducible first | exact HB.out | apply below_alloc | apply pw_below_drewN | apply below_drew1) | exact HB.out)) hb); clear HO148; clear HB; have HO148 := n0_; have HB := n1_; clear n0_ n1_; (try clear hb); (try clear hb2); (try clear hk); (try clear hi)) | (go_at_call 33; (with_reducible refine (glob_Fits.calls k (rdOf ByteArray.empty t146 t149) (rdOf ByteArray.empty t146 t149) false t156 _ ?side1 A12.out).mono ?_); (case side1 => exact G_below hG_.out (by repeat (first | (with_reducible first | exact HB.out | apply below_alloc | apply pw_below_drewN | apply below_drew1) | exact HB.out))); rintro e w23 ⟨rfl, hb⟩; have n0_ := Aside0.mk (Kd.R_below (by (with_reducible repeat (first | apply Kd.R_alloc | apply Kd.R_drewN | apply Kd.R_drew)); exact HO148.out) hb); have n1_ := Aside0.mk (below_step (by repeat (first | (with_reducible first | exact HB.out | apply below_alloc | apply pw_below_drewN | apply below_drew1) | exact HB.out)) hb); clear HO148; clear HB; have HO148 := n0_; have HB := n1_; clear n0_ n1_; (try clear hb); (try clear hb2); (try clear hk); (try clear hi)))
                repeat (go_quiet (first | (go_at_call 30; (with_reducible refine (creelkeep_paths.calls _ _ l0 20 t146 _ ?side1 ?side2 ?side3 A4.out).mono ?_); (case side1 => repeat (first | exact HR0.out | (with_reducible refine Kd.C_alloc ?_ _) | (with_reducible refine Kd.C_drewN ?_ _) | (with_reducible refine Kd.C_drew ?_))); (case side2 => exact HC0.out); (case side3 => exact G_below hG_.out (by repeat (first | (with_reducible first | exact HB.out | apply below_alloc | apply pw_below_drewN | apply below_drew1) | exact HB.out))); rintro e w20 ⟨v147, rfl, ho0, hb⟩; have n0_ := Aside0.mk (Kd.R_lower ho0 (below_size (by repeat (first | (with_reducible first | exact HB.out | apply below_alloc | apply pw_below_drewN | apply below_drew1) | exact HB.out)))); have n1_ := Aside0.mk (below_step (by repeat (first | (with_reducible first | exact HB.out | apply below_alloc | apply pw_below_drewN | apply below_drew1) | exact HB.out)) hb); clear HB; have HO148 := n0_; have HB := n1_; clear n0_ n1_; (try clear hb); (try clear hb2); (try clear hk); (try clear hi); (try clear ho0); obtain ⟨Ao21, co21, eo21⟩ := Kd.R_slice HO148.out; subst eo21) | (go_at_call 24; (with_reducible refine (creelkeep_picked.calls a1 (t146.length : Int) t149 _ A5.out).mono ?_); rintro e w' ⟨rfl, ⟨nd, rfl⟩⟩; (try first | exact ⟨rfl, _, World.drewN_drewN _ _ _⟩ | exact ⟨rfl, _, Eq.trans (World.drewN_drewN _ _ _) (congrArg (World.drewN _) (Nat.add_assoc _ _ _))⟩); have p150 : 0 ≤ (t149 : Int) := of_decide_eq_true (by first | (with_reducible assumption) | assumption); have q150 : t149 < (t146.length : Int) := of_decide_eq_true (by first | (with_reducible assumption) | assumption); obtain ⟨ad150, e150, hx150_0⟩ := Kd.at_string (Kd.R_reads' HO148.out).2.2 t149 p150 q150; cases e150; replace p150 := eq_true p150; replace q150 := eq_true q150) | (go_at_call 24; (with_reducible refine (creelkeep_picked.calls a2 (t146.length : Int) t151 _ A8.out).mono ?_); rintro e w' ⟨rfl, ⟨nd, rfl⟩⟩; (try first | exact ⟨rfl, _, World.drewN_drewN _ _ _⟩ | exact ⟨rfl, _, Eq.trans (World.drewN_drewN _ _ _) (congrArg (World.drewN _) (Nat.add_assoc _ _ _))⟩); have p152 : 0 ≤ (t151 : Int) := of_decide_eq_true (by first | (with_reducible assumption) | assumption); have q152 : t151 < (t146.length : Int) := of_decide_eq_true (by first | (with_reducible assumption) | assumption); obtain ⟨ad152, e152, hx152_0⟩ := Kd.at_string (Kd.R_reads' HO148.out).2.2 t151 p152 q152; obtain rfl : ad150 = ad152 := (by injection e152); replace p152 := eq_true p152; replace q152 := eq_true q152) | (go_at_call 33; (with_reducible refine (glob_Fits.calls k (rdOf ByteArray.empty t146 t149) (rdOf ByteArray.empty t146 t151) t153 t154 _ ?side1 A11.out).mono ?_); (case side1 => exact G_below hG_.out (by repeat (first | (with_reducible first | exact HB.out | apply below_alloc | apply pw_below_drewN | apply below_drew1) | exact HB.out))); rintro e w22 ⟨rfl, hb⟩; have n0_ := Aside0.mk (Kd.R_below (by (with_reducible repeat (first | apply Kd.R_alloc | apply Kd.R_drewN | apply Kd.R_drew)); exact HO148.out) hb); have n1_ := Aside0.mk (below_step (by repeat (first | (with_reducible first | exact HB.out | apply below_alloc | apply pw_below_drewN | apply below_drew1) | exact HB.out)) hb); clear HO148; clear HB; have HO148 := n0_; have HB := n1_; clear n0_ n1_; (try clear hb); (try clear hb2); (try clear hk); (try clear hi)) | (go_at_call 33; (with_reducible refine (glob_Fits.calls k (rdOf ByteArray.empty t146 t149) (rdOf ByteArray.empty t146 t149) false t156 _ ?side1 A12.out).mono ?_); (case side1 => exact G_below hG_.out (by repeat (first | (with_reducible first | exact HB.out | apply below_alloc | apply pw_below_drewN | apply below_drew1) | exact HB.out))); rintro e w23 ⟨rfl, hb⟩; have n0_ := Aside0.mk (Kd.R_below (by (with_reducible repeat (first | apply Kd.R_alloc | apply Kd.R_drewN | apply Kd.R_drew)); exact HO148.out) hb); have n1_ := Aside0.mk (below_step (by repeat (first | (with_reducible first | exact HB.out | apply below_alloc | apply pw_below_drewN | apply below_drew1) | exact HB.out)) hb); clear HO148; clear HB; have HO148 := n0_; have HB := n1_; clear n0_ n1_; (try clear hb); (try clear hb2); (try clear hk); (try clear hi))); try go_wp2_with (first | (go_at_call 30; (with_reducible refine (creelkeep_paths.calls _ _ l0 20 t146 _ ?side1 ?side2 ?side3 A4.out).mono ?_); (case side1 => repeat (first | exact HR0.out | (with_reducible refine Kd.C_alloc ?_ _) | (with_reducible refine Kd.C_drewN ?_ _) | (with_reducible refine Kd.C_drew ?_))); (case side2 => exact HC0.out); (case side3 => exact G_below hG_.out (by repeat (first | (with_reducible first | exact HB.out | apply below_alloc | apply pw_below_drewN | apply below_drew1) | exact HB.out))); rintro e w20 ⟨v147, rfl, ho0, hb⟩; have n0_ := Aside0.mk (Kd.R_lower ho0 (below_size (by repeat (first | (with_reducible first | exact HB.out | apply below_alloc | apply pw_below_drewN | apply below_drew1) | exact HB.out)))); have n1_ := Aside0.mk (below_step (by repeat (first | (with_reducible first | exact HB.out | apply below_alloc | apply pw_below_drewN | apply below_drew1) | exact HB.out)) hb); clear HB; have HO148 := n0_; have HB := n1_; clear n0_ n1_; (try clear hb); (try clear hb2); (try clear hk); (try clear hi); (try clear ho0); obtain ⟨Ao21, co21, eo21⟩ := Kd.R_slice HO148.out; subst eo21) | (go_at_call 24; (with_reducible refine (creelkeep_picked.calls a1 (t146.length : Int) t149 _ A5.out).mono ?_); rintro e w' ⟨rfl, ⟨nd, rfl⟩⟩; (try first | exact ⟨rfl, _, World.drewN_drewN _ _ _⟩ | exact ⟨rfl, _, Eq.trans (World.drewN_drewN _ _ _) (congrArg (World.drewN _) (Nat.add_assoc _ _ _))⟩); have p150 : 0 ≤ (t149 : Int) := of_decide_eq_true (by first | (with_reducible assumption) | assumption); have q150 : t149 < (t146.length : Int) := of_decide_eq_true (by first | (with_reducible assumption) | assumption); obtain ⟨ad150, e150, hx150_0⟩ := Kd.at_string (Kd.R_reads' HO148.out).2.2 t149 p150 q150; cases e150; replace p150 := eq_true p150; replace q150 := eq_true q150) | (go_at_call 24; (with_reducible refine (creelkeep_picked.calls a2 (t146.length : Int) t151 _ A8.out).mono ?_); rintro e w' ⟨rfl, ⟨nd, rfl⟩⟩; (try first | exact ⟨rfl, _, World.drewN_drewN _ _ _⟩ | exact ⟨rfl, _, Eq.trans (World.drewN_drewN _ _ _) (congrArg (World.drewN _) (Nat.add_assoc _ _ _))⟩); have p152 : 0 ≤ (t151 : Int) := of_decide_eq_true (by first | (with_reducible assumption) | assumption); have q152 : t151 < (t146.length : Int) := of_decide_eq_true (by first | (with_reducible assumption) | assumption); obtain ⟨ad152, e152, hx152_0⟩ := Kd.at_string (Kd.R_reads' HO148.out).2.2 t151 p152 q152; obtain rfl : ad150 = ad152 := (by injection e152); replace p152 := eq_true p152; replace q152 := eq_true q152) | (go_at_call 33; (with_reducible refine (glob_Fits.calls k (rdOf ByteArray.empty t146 t149) (rdOf ByteArray.empty t146 t151) t153 t154 _ ?side1 A11.out).mono ?_); (case side1 => exact G_below hG_.out (by repeat (first | (with_reducible first | exact HB.out | apply below_alloc | apply pw_below_drewN | apply below_drew1) | exact HB.out))); rintro e w22 ⟨rfl, hb⟩; have n0_ := Aside0.mk (Kd.R_below (by (with_reducible repeat (first | apply Kd.R_alloc | apply Kd.R_drewN | apply Kd.R_drew)); exact HO148.out) hb); have n1_ := Aside0.mk (below_step (by repeat (first | (with_reducible first | exact HB.out | apply below_alloc | apply pw_below_drewN | apply below_drew1) | exact HB.out)) hb); clear HO148; clear HB; have HO148 := n0_; have HB := n1_; clear n0_ n1_; (try clear hb); (try clear hb2); (try clear hk); (try clear hi)) | (go_at_call 33; (with_reducible refine (glob_Fits.calls k (rdOf ByteArray.empty t146 t149) (rdOf ByteArray.empty t146 t149) false t156 _ ?side1 A12.out).mono ?_); (case side1 => exact G_below hG_.out (by repeat (first | (with_reducible first | exact HB.out | apply below_alloc | apply pw_below_drewN | apply below_drew1) | exact HB.out))); rintro e w23 ⟨rfl, hb⟩; have n0_ := Aside0.mk (Kd.R_below (by (with_reducible repeat (first | apply Kd.R_alloc | apply Kd.R_drewN | apply Kd.R_drew)); exact HO148.out) hb); have n1_ := Aside0.mk (below_step (by repeat (first | (with_reducible first | exact HB.out | apply below_alloc | apply pw_below_drewN | apply below_drew1) | exact HB.out)) hb); clear HO148; clear HB; have HO148 := n0_; have HB := n1_; clear n0_ n1_; (try clear hb); (try clear hb2); (try clear hk); (try clear hi))))
                all_goals go_ret
                all_goals exact ⟨by first | rfl | (simp [errW_none, errW_some] <;> rfl) | (simp [*, errW_none, errW_some] <;> rfl) | (simp [errW_none, errW_some] <;> (generalize ByteArray.toList _ = l_ <;> cases l_ <;> rfl)), by repeat (first | (with_reducible first | exact HB.out | apply below_alloc | apply pw_below_drewN | apply below_drew1) | exact HB.out)⟩
            · rw [if_neg c14] at H
              have c14b0 : (t156 == 0) = false := beq_eq_false_iff_ne.mpr c14
              have c14b1 : (t156 != 0) = true := bne_iff_ne.mpr c14
              obtain rfl := Option.some.inj H
              go_enter Tryd.func10, Tryd.ntmps10
              go_wp2_with (first | (go_at_call 30; (with_reducible refine (creelkeep_paths.calls _ _ l0 20 t146 _ ?side1 ?side2 ?side3 A4.out).mono ?_); (case side1 => repeat (first | exact HR0.out | (with_reducible refine Kd.C_alloc ?_ _) | (with_reducible refine Kd.C_drewN ?_ _) | (with_reducible refine Kd.C_drew ?_))); (case side2 => exact HC0.out); (case side3 => exact G_below hG_.out (by repeat (first | (with_reducible first | exact HB.out | apply below_alloc | apply pw_below_drewN | apply below_drew1) | exact HB.out))); rintro e w24 ⟨v147, rfl, ho0, hb⟩; have n0_ := Aside0.mk (Kd.R_lower ho0 (below_size (by repeat (first | (with_reducible first | exact HB.out | apply below_alloc | apply pw_below_drewN | apply below_drew1) | exact HB.out)))); have n1_ := Aside0.mk (below_step (by repeat (first | (with_reducible first | exact HB.out | apply below_alloc | apply pw_below_drewN | apply below_drew1) | exact HB.out)) hb); clear HB; have HO148 := n0_; have HB := n1_; clear n0_ n1_; (try clear hb); (try clear hb2); (try clear hk); (try clear hi); (try clear ho0); obtain ⟨Ao25, co25, eo25⟩ := Kd.R_slice HO148.out; subst eo25) | (go_at_call 24; (with_reducible refine (creelkeep_picked.calls a1 (t146.length : Int) t149 _ A5.out).mono ?_); rintro e w' ⟨rfl, ⟨nd, rfl⟩⟩; (try first | exact ⟨rfl, _, World.drewN_drewN _ _ _⟩ | exact ⟨rfl, _, Eq.trans (World.drewN_drewN _ _ _) (congrArg (World.drewN _) (Nat.add_assoc _ _ _))⟩); have p150 : 0 ≤ (t149 : Int) := of_decide_eq_true (by first | (with_reducible assumption) | assumption); have q150 : t149 < (t146.length : Int) := of_decide_eq_true (by first | (with_reducible assumption) | assumption); obtain ⟨ad150, e150, hx150_0⟩ := Kd.at_string (Kd.R_reads' HO148.out).2.2 t149 p150 q150; cases e150; replace p150 := eq_true p150; replace q150 := eq_true q150) | (go_at_call 24; (with_reducible refine (creelkeep_picked.calls a2 (t146.length : Int) t151 _ A8.out).mono ?_); rintro e w' ⟨rfl, ⟨nd, rfl⟩⟩; (try first | exact ⟨rfl, _, World.drewN_drewN _ _ _⟩ | exact ⟨rfl, _, Eq.trans (World.drewN_drewN _ _ _) (congrArg (World.drewN _) (Nat.add_assoc _ _ _))⟩); have p152 : 0 ≤ (t151 : Int) := of_decide_eq_true (by first | (with_reducible assumption) | assumption); have q152 : t151 < (t146.length : Int) := of_decide_eq_true (by first | (with_reducible assumption) | assumption); obtain ⟨ad152, e152, hx152_0⟩ := Kd.at_string (Kd.R_reads' HO148.out).2.2 t151 p152 q152; obtain rfl : ad150 = ad152 := (by injection e152); replace p152 := eq_true p152; replace q152 := eq_true q152) | (go_at_call 33; (with_reducible refine (glob_Fits.calls k (rdOf ByteArray.empty t146 t149) (rdOf ByteArray.empty t146 t151) t153 t154 _ ?side1 A11.out).mono ?_); (case side1 => exact G_below hG_.out (by repeat (first | (with_reducible first | exact HB.out | apply below_alloc | apply pw_below_drewN | apply below_drew1) | exact HB.out))); rintro e w26 ⟨rfl, hb⟩; have n0_ := Aside0.mk (Kd.R_below (by (with_reducible repeat (first | apply Kd.R_alloc | apply Kd.R_drewN | apply Kd.R_drew)); exact HO148.out) hb); have n1_ := Aside0.mk (below_step (by repeat (first | (with_reducible first | exact HB.out | apply below_alloc | apply pw_below_drewN | apply below_drew1) | exact HB.out)) hb); clear HO148; clear HB; have HO148 := n0_; have HB := n1_; clear n0_ n1_; (try clear hb); (try clear hb2); (try clear hk); (try clear hi)) | (go_at_call 33; (with_reducible refine (glob_Fits.calls k (rdOf ByteArray.empty t146 t149) (rdOf ByteArray.empty t146 t149) t155 t156 _ ?side1 A12.out).mono ?_); (case side1 => exact G_below hG_.out (by repeat (first | (with_reducible first | exact HB.out | apply below_alloc | apply pw_below_drewN | apply below_drew1) | exact HB.out))); rintro e w27 ⟨rfl, hb⟩; have n0_ := Aside0.mk (Kd.R_below (by (with_reducible repeat (first | apply Kd.R_alloc | apply Kd.R_drewN | apply Kd.R_drew)); exact HO148.out) hb); have n1_ := Aside0.mk (below_step (by repeat (first | (with_reducible first | exact HB.out | apply below_alloc | apply pw_below_drewN | apply below_drew1) | exact HB.out)) hb); clear HO148; clear HB; have HO148 := n0_; have HB := n1_; clear n0_ n1_; (try clear hb); (try clear hb2); (try clear hk); (try clear hi)))
              repeat (go_quiet (first | (go_at_call 30; (with_reducible refine (creelkeep_paths.calls _ _ l0 20 t146 _ ?side1 ?side2 ?side3 A4.out).mono ?_); (case side1 => repeat (first | exact HR0.out | (with_reducible refine Kd.C_alloc ?_ _) | (with_reducible refine Kd.C_drewN ?_ _) | (with_reducible refine Kd.C_drew ?_))); (case side2 => exact HC0.out); (case side3 => exact G_below hG_.out (by repeat (first | (with_reducible first | exact HB.out | apply below_alloc | apply pw_below_drewN | apply below_drew1) | exact HB.out))); rintro e w24 ⟨v147, rfl, ho0, hb⟩; have n0_ := Aside0.mk (Kd.R_lower ho0 (below_size (by repeat (first | (with_reducible first | exact HB.out | apply below_alloc | apply pw_below_drewN | apply below_drew1) | exact HB.out)))); have n1_ := Aside0.mk (below_step (by repeat (first | (with_reducible first | exact HB.out | apply below_alloc | apply pw_below_drewN | apply below_drew1) | exact HB.out)) hb); clear HB; have HO148 := n0_; have HB := n1_; clear n0_ n1_; (try clear hb); (try clear hb2); (try clear hk); (try clear hi); (try clear ho0); obtain ⟨Ao25, co25, eo25⟩ := Kd.R_slice HO148.out; subst eo25) | (go_at_call 24; (with_reducible refine (creelkeep_picked.calls a1 (t146.length : Int) t149 _ A5.out).mono ?_); rintro e w' ⟨rfl, ⟨nd, rfl⟩⟩; (try first | exact ⟨rfl, _, World.drewN_drewN _ _ _⟩ | exact ⟨rfl, _, Eq.trans (World.drewN_drewN _ _ _) (congrArg (World.drewN _) (Nat.add_assoc _ _ _))⟩); have p150 : 0 ≤ (t149 : Int) := of_decide_eq_true (by first | (with_reducible assumption) | assumption); have q150 : t149 < (t146.length : Int) := of_decide_eq_true (by first | (with_reducible assumption) | assumption); obtain ⟨ad150, e150, hx150_0⟩ := Kd.at_string (Kd.R_reads' HO148.out).2.2 t149 p150 q150; cases e150; replace p150 := eq_true p150; replace q150 := eq_true q150) | (go_at_call 24; (with_reducible refine (creelkeep_picked.calls a2 (t146.length : Int) t151 _ A8.out).mono ?_); rintro e w' ⟨rfl, ⟨nd, rfl⟩⟩; (try first | exact ⟨rfl, _, World.drewN_drewN _ _ _⟩ | exact ⟨rfl, _, Eq.trans (World.drewN_drewN _ _ _) (congrArg (World.drewN _) (Nat.add_assoc _ _ _))⟩); have p152 : 0 ≤ (t151 : Int) := of_decide_eq_true (by first | (with_reducible assumption) | assumption); have q152 : t151 < (t146.length : Int) := of_decide_eq_true (by first | (with_reducible assumption) | assumption); obtain ⟨ad152, e152, hx152_0⟩ := Kd.at_string (Kd.R_reads' HO148.out).2.2 t151 p152 q152; obtain rfl : ad150 = ad152 := (by injection e152); replace p152 := eq_true p152; replace q152 := eq_true q152) | (go_at_call 33; (with_reducible refine (glob_Fits.calls k (rdOf ByteArray.empty t146 t149) (rdOf ByteArray.empty t146 t151) t153 t154 _ ?side1 A11.out).mono ?_); (case side1 => exact G_below hG_.out (by repeat (first | (with_reducible first | exact HB.out | apply below_alloc | apply pw_below_drewN | apply below_drew1) | exact HB.out))); rintro e w26 ⟨rfl, hb⟩; have n0_ := Aside0.mk (Kd.R_below (by (with_reducible repeat (first | apply Kd.R_alloc | apply Kd.R_drewN | apply Kd.R_drew)); exact HO148.out) hb); have n1_ := Aside0.mk (below_step (by repeat (first | (with_reducible first | exact HB.out | apply below_alloc | apply pw_below_drewN | apply below_drew1) | exact HB.out)) hb); clear HO148; clear HB; have HO148 := n0_; have HB := n1_; clear n0_ n1_; (try clear hb); (try clear hb2); (try clear hk); (try clear hi)) | (go_at_call 33; (with_reducible refine (glob_Fits.calls k (rdOf ByteArray.empty t146 t149) (rdOf ByteArray.empty t146 t149) t155 t156 _ ?side1 A12.out).mono ?_); (case side1 => exact G_below hG_.out (by repeat (first | (with_reducible first | exact HB.out | apply below_alloc | apply pw_below_drewN | apply below_drew1) | exact HB.out))); rintro e w27 ⟨rfl, hb⟩; have n0_ := Aside0.mk (Kd.R_below (by (with_reducible repeat (first | apply Kd.R_alloc | apply Kd.R_drewN | apply Kd.R_drew)); exact HO148.out) hb); have n1_ := Aside0.mk (below_step (by repeat (first | (with_reducible first | exact HB.out | apply below_alloc | apply pw_below_drewN | apply below_drew1) | exact HB.out)) hb); clear HO148; clear HB; have HO148 := n0_; have HB := n1_; clear n0_ n1_; (try clear hb); (try clear hb2); (try clear hk); (try clear hi))); try go_wp2_with (first | (go_at_call 30; (with_reducible refine (creelkeep_paths.calls _ _ l0 20 t146 _ ?side1 ?side2 ?side3 A4.out).mono ?_); (case side1 => repeat (first | exact HR0.out | (with_reducible refine Kd.C_alloc ?_ _) | (with_reducible refine Kd.C_drewN ?_ _) | (with_reducible refine Kd.C_drew ?_))); (case side2 => exact HC0.out); (case side3 => exact G_below hG_.out (by repeat (first | (with_reducible first | exact HB.out | apply below_alloc | apply pw_below_drewN | apply below_drew1) | exact HB.out))); rintro e w24 ⟨v147, rfl, ho0, hb⟩; have n0_ := Aside0.mk (Kd.R_lower ho0 (below_size (by repeat (first | (with_reducible first | exact HB.out | apply below_alloc | apply pw_below_drewN | apply below_drew1) | exact HB.out)))); have n1_ := Aside0.mk (below_step (by repeat (first | (with_reducible first | exact HB.out | apply below_alloc | apply pw_below_drewN | apply below_drew1) | exact HB.out)) hb); clear HB; have HO148 := n0_; have HB := n1_; clear n0_ n1_; (try clear hb); (try clear hb2); (try clear hk); (try clear hi); (try clear ho0); obtain ⟨Ao25, co25, eo25⟩ := Kd.R_slice HO148.out; subst eo25) | (go_at_call 24; (with_reducible refine (creelkeep_picked.calls a1 (t146.length : Int) t149 _ A5.out).mono ?_); rintro e w' ⟨rfl, ⟨nd, rfl⟩⟩; (try first | exact ⟨rfl, _, World.drewN_drewN _ _ _⟩ | exact ⟨rfl, _, Eq.trans (World.drewN_drewN _ _ _) (congrArg (World.drewN _) (Nat.add_assoc _ _ _))⟩); have p150 : 0 ≤ (t149 : Int) := of_decide_eq_true (by first | (with_reducible assumption) | assumption); have q150 : t149 < (t146.length : Int) := of_decide_eq_true (by first | (with_reducible assumption) | assumption); obtain ⟨ad150, e150, hx150_0⟩ := Kd.at_string (Kd.R_reads' HO148.out).2.2 t149 p150 q150; cases e150; replace p150 := eq_true p150; replace q150 := eq_true q150) | (go_at_call 24; (with_reducible refine (creelkeep_picked.calls a2 (t146.length : Int) t151 _ A8.out).mono ?_); rintro e w' ⟨rfl, ⟨nd, rfl⟩⟩; (try first | exact ⟨rfl, _, World.drewN_drewN _ _ _⟩ | exact ⟨rfl, _, Eq.trans (World.drewN_drewN _ _ _) (congrArg (World.drewN _) (Nat.add_assoc _ _ _))⟩); have p152 : 0 ≤ (t151 : Int) := of_decide_eq_true (by first | (with_reducible assumption) | assumption); have q152 : t151 < (t146.length : Int) := of_decide_eq_true (by first | (with_reducible assumption) | assumption); obtain ⟨ad152, e152, hx152_0⟩ := Kd.at_string (Kd.R_reads' HO148.out).2.2 t151 p152 q152; obtain rfl : ad150 = ad152 := (by injection e152); replace p152 := eq_true p152; replace q152 := eq_true q152) | (go_at_call 33; (with_reducible refine (glob_Fits.calls k (rdOf ByteArray.empty t146 t149) (rdOf ByteArray.empty t146 t151) t153 t154 _ ?side1 A11.out).mono ?_); (case side1 => exact G_below hG_.out (by repeat (first | (with_reducible first | exact HB.out | apply below_alloc | apply pw_below_drewN | apply below_drew1) | exact HB.out))); rintro e w26 ⟨rfl, hb⟩; have n0_ := Aside0.mk (Kd.R_below (by (with_reducible repeat (first | apply Kd.R_alloc | apply Kd.R_drewN | apply Kd.R_drew)); exact HO148.out) hb); have n1_ := Aside0.mk (below_step (by repeat (first | (with_reducible first | exact HB.out | apply below_alloc | apply pw_below_drewN | apply below_drew1) | exact HB.out)) hb); clear HO148; clear HB; have HO148 := n0_; have HB := n1_; clear n0_ n1_; (try clear hb); (try clear hb2); (try clear hk); (try clear hi)) | (go_at_call 33; (with_reducible refine (glob_Fits.calls k (rdOf ByteArray.empty t146 t149) (rdOf ByteArray.empty t146 t149) t155 t156 _ ?side1 A12.out).mono ?_); (case side1 => exact G_below hG_.out (by repeat (first | (with_reducible first | exact HB.out | apply below_alloc | apply pw_below_drewN | apply below_drew1) | exact HB.out))); rintro e w27 ⟨rfl, hb⟩; have n0_ := Aside0.mk (Kd.R_below (by (with_reducible repeat (first | apply Kd.R_alloc | apply Kd.R_drewN | apply Kd.R_drew)); exact HO148.out) hb); have n1_ := Aside0.mk (below_step (by repeat (first | (with_reducible first | exact HB.out | apply below_alloc | apply pw_below_drewN | apply below_drew1) | exact HB.out)) hb); clear HO148; clear HB; have HO148 := n0_; have HB := n1_; clear n0_ n1_; (try clear hb); (try clear hb2); (try clear hk); (try clear hi))))
              all_goals go_ret
              all_goals exact ⟨by first | rfl | (simp [errW_none, errW_some] <;> rfl) | (simp [*, errW_none, errW_some] <;> rfl) | (simp [errW_none, errW_some] <;> (generalize ByteArray.toList _ = l_ <;> cases l_ <;> rfl)), by repeat (first | (with_reducible first | exact HB.out | apply below_alloc | apply pw_below_drewN | apply below_drew1) | exact HB.out)⟩
          · rw [if_neg c13] at H
            have c13b0 : (t154 == 0) = false := beq_eq_false_iff_ne.mpr c13
            have c13b1 : (t154 != 0) = true := bne_iff_ne.mpr c13
            obtain rfl := Option.some.inj H
            go_enter Tryd.func10, Tryd.ntmps10
            go_wp2_with (first | (go_at_call 30; (with_reducible refine (creelkeep_paths.calls _ _ l0 20 t146 _ ?side1 ?side2 ?side3 A4.out).mono ?_); (case side1 => repeat (first | exact HR0.out | (with_reducible refine Kd.C_alloc ?_ _) | (with_reducible refine Kd.C_drewN ?_ _) | (with_reducible refine Kd.C_drew ?_))); (case side2 => exact HC0.out); (case side3 => exact G_below hG_.out (by repeat (first | (with_reducible first | exact HB.out | apply below_alloc | apply pw_below_drewN | apply below_drew1) | exact HB.out))); rintro e w28 ⟨v147, rfl, ho0, hb⟩; have n0_ := Aside0.mk (Kd.R_lower ho0 (below_size (by repeat (first | (with_reducible first | exact HB.out | apply below_alloc | apply pw_below_drewN | apply below_drew1) | exact HB.out)))); have n1_ := Aside0.mk (below_step (by repeat (first | (with_reducible first | exact HB.out | apply below_alloc | apply pw_below_drewN | apply below_drew1) | exact HB.out)) hb); clear HB; have HO148 := n0_; have HB := n1_; clear n0_ n1_; (try clear hb); (try clear hb2); (try clear hk); (try clear hi); (try clear ho0); obtain ⟨Ao29, co29, eo29⟩ := Kd.R_slice HO148.out; subst eo29) | (go_at_call 24; (with_reducible refine (creelkeep_picked.calls a1 (t146.length : Int) t149 _ A5.out).mono ?_); rintro e w' ⟨rfl, ⟨nd, rfl⟩⟩; (try first | exact ⟨rfl, _, World.drewN_drewN _ _ _⟩ | exact ⟨rfl, _, Eq.trans (World.drewN_drewN _ _ _) (congrArg (World.drewN _) (Nat.add_assoc _ _ _))⟩); have p150 : 0 ≤ (t149 : Int) := of_decide_eq_true (by first | (with_reducible assumption) | assumption); have q150 : t149 < (t146.length : Int) := of_decide_eq_true (by first | (with_reducible assumption) | assumption); obtain ⟨ad150, e150, hx150_0⟩ := Kd.at_string (Kd.R_reads' HO148.out).2.2 t149 p150 q150; cases e150; replace p150 := eq_true p150; replace q150 := eq_true q150) | (go_at_call 24; (with_reducible refine (creelkeep_picked.calls a2 (t146.length : Int) t151 _ A8.out).mono ?_); rintro e w' ⟨rfl, ⟨nd, rfl⟩⟩; (try first | exact ⟨rfl, _, World.drewN_drewN _ _ _⟩ | exact ⟨rfl, _, Eq.trans (World.drewN_drewN _ _ _) (congrArg (World.drewN _) (Nat.add_assoc _ _ _))⟩); have p152 : 0 ≤ (t151 : Int) := of_decide_eq_true (by first | (with_reducible assumption) | assumption); have q152 : t151 < (t146.length : Int) := of_decide_eq_true (by first | (with_reducible assumption) | assumption); obtain ⟨ad152, e152, hx152_0⟩ := Kd.at_string (Kd.R_reads' HO148.out).2.2 t151 p152 q152; obtain rfl : ad150 = ad152 := (by injection e152); replace p152 := eq_true p152; replace q152 := eq_true q152) | (go_at_call 33; (with_reducible refine (glob_Fits.calls k (rdOf ByteArray.empty t146 t149) (rdOf ByteArray.empty t146 t151) t153 t154 _ ?side1 A11.out).mono ?_); (case side1 => exact G_below hG_.out (by repeat (first | (with_reducible first | exact HB.out | apply below_alloc | apply pw_below_drewN | apply below_drew1) | exact HB.out))); rintro e w30 ⟨rfl, hb⟩; have n0_ := Aside0.mk (Kd.R_below (by (with_reducible repeat (first | apply Kd.R_alloc | apply Kd.R_drewN | apply Kd.R_drew)); exact HO148.out) hb); have n1_ := Aside0.mk (below_step (by repeat (first | (with_reducible first | exact HB.out | apply below_alloc | apply pw_below_drewN | apply below_drew1) | exact HB.out)) hb); clear HO148; clear HB; have HO148 := n0_; have HB := n1_; clear n0_ n1_; (try clear hb); (try clear hb2); (try clear hk); (try clear hi)) | (go_at_call 33; (with_reducible refine (glob_Fits.calls k (rdOf ByteArray.empty t146 t149) (rdOf ByteArray.empty t146 t149) t155 t156 _ ?side1 A12.out).mono ?_); (case side1 => exact G_below hG_.out (by repeat (first | (with_reducible first | exact HB.out | apply below_alloc | apply pw_below_drewN | apply below_drew1) | exact HB.out))); rintro e w31 ⟨rfl, hb⟩; have n0_ := Aside0.mk (Kd.R_below (by (with_reducible repeat (first | apply Kd.R_alloc | apply Kd.R_drewN | apply Kd.R_drew)); exact HO148.out) hb); have n1_ := Aside0.mk (below_step (by repeat (first | (with_reducible first | exact HB.out | apply below_alloc | apply pw_below_drewN | apply below_drew1) | exact HB.out)) hb); clear HO148; clear HB; have HO148 := n0_; have HB := n1_; clear n0_ n1_; (try clear hb); (try clear hb2); (try clear hk); (try clear hi)))
            repeat (go_quiet (first | (go_at_call 30; (with_reducible refine (creelkeep_paths.calls _ _ l0 20 t146 _ ?side1 ?side2 ?side3 A4.out).mono ?_); (case side1 => repeat (first | exact HR0.out | (with_reducible refine Kd.C_alloc ?_ _) | (with_reducible refine Kd.C_drewN ?_ _) | (with_reducible refine Kd.C_drew ?_))); (case side2 => exact HC0.out); (case side3 => exact G_below hG_.out (by repeat (first | (with_reducible first | exact HB.out | apply below_alloc | apply pw_below_drewN | apply below_drew1) | exact HB.out))); rintro e w28 ⟨v147, rfl, ho0, hb⟩; have n0_ := Aside0.mk (Kd.R_lower ho0 (below_size (by repeat (first | (with_reducible first | exact HB.out | apply below_alloc | apply pw_below_drewN | apply below_drew1) | exact HB.out)))); have n1_ := Aside0.mk (below_step (by repeat (first | (with_reducible first | exact HB.out | apply below_alloc | apply pw_below_drewN | apply below_drew1) | exact HB.out)) hb); clear HB; have HO148 := n0_; have HB := n1_; clear n0_ n1_; (try clear hb); (try clear hb2); (try clear hk); (try clear hi); (try clear ho0); obtain ⟨Ao29, co29, eo29⟩ := Kd.R_slice HO148.out; subst eo29) | (go_at_call 24; (with_reducible refine (creelkeep_picked.calls a1 (t146.length : Int) t149 _ A5.out).mono ?_); rintro e w' ⟨rfl, ⟨nd, rfl⟩⟩; (try first | exact ⟨rfl, _, World.drewN_drewN _ _ _⟩ | exact ⟨rfl, _, Eq.trans (World.drewN_drewN _ _ _) (congrArg (World.drewN _) (Nat.add_assoc _ _ _))⟩); have p150 : 0 ≤ (t149 : Int) := of_decide_eq_true (by first | (with_reducible assumption) | assumption); have q150 : t149 < (t146.length : Int) := of_decide_eq_true (by first | (with_reducible assumption) | assumption); obtain ⟨ad150, e150, hx150_0⟩ := Kd.at_string (Kd.R_reads' HO148.out).2.2 t149 p150 q150; cases e150; replace p150 := eq_true p150; replace q150 := eq_true q150) | (go_at_call 24; (with_reducible refine (creelkeep_picked.calls a2 (t146.length : Int) t151 _ A8.out).mono ?_); rintro e w' ⟨rfl, ⟨nd, rfl⟩⟩; (try first | exact ⟨rfl, _, World.drewN_drewN _ _ _⟩ | exact ⟨rfl, _, Eq.trans (World.drewN_drewN _ _ _) (congrArg (World.drewN _) (Nat.add_assoc _ _ _))⟩); have p152 : 0 ≤ (t151 : Int) := of_decide_eq_true (by first | (with_reducible assumption) | assumption); have q152 : t151 < (t146.length : Int) := of_decide_eq_true (by first | (with_reducible assumption) | assumption); obtain ⟨ad152, e152, hx152_0⟩ := Kd.at_string (Kd.R_reads' HO148.out).2.2 t151 p152 q152; obtain rfl : ad150 = ad152 := (by injection e152); replace p152 := eq_true p152; replace q152 := eq_true q152) | (go_at_call 33; (with_reducible refine (glob_Fits.calls k (rdOf ByteArray.empty t146 t149) (rdOf ByteArray.empty t146 t151) t153 t154 _ ?side1 A11.out).mono ?_); (case side1 => exact G_below hG_.out (by repeat (first | (with_reducible first | exact HB.out | apply below_alloc | apply pw_below_drewN | apply below_drew1) | exact HB.out))); rintro e w30 ⟨rfl, hb⟩; have n0_ := Aside0.mk (Kd.R_below (by (with_reducible repeat (first | apply Kd.R_alloc | apply Kd.R_drewN | apply Kd.R_drew)); exact HO148.out) hb); have n1_ := Aside0.mk (below_step (by repeat (first | (with_reducible first | exact HB.out | apply below_alloc | apply pw_below_drewN | apply below_drew1) | exact HB.out)) hb); clear HO148; clear HB; have HO148 := n0_; have HB := n1_; clear n0_ n1_; (try clear hb); (try clear hb2); (try clear hk); (try clear hi)) | (go_at_call 33; (with_reducible refine (glob_Fits.calls k (rdOf ByteArray.empty t146 t149) (rdOf ByteArray.empty t146 t149) t155 t156 _ ?side1 A12.out).mono ?_); (case side1 => exact G_below hG_.out (by repeat (first | (with_reducible first | exact HB.out | apply below_alloc | apply pw_below_drewN | apply below_drew1) | exact HB.out))); rintro e w31 ⟨rfl, hb⟩; have n0_ := Aside0.mk (Kd.R_below (by (with_reducible repeat (first | apply Kd.R_alloc | apply Kd.R_drewN | apply Kd.R_drew)); exact HO148.out) hb); have n1_ := Aside0.mk (below_step (by repeat (first | (with_reducible first | exact HB.out | apply below_alloc | apply pw_below_drewN | apply below_drew1) | exact HB.out)) hb); clear HO148; clear HB; have HO148 := n0_; have HB := n1_; clear n0_ n1_; (try clear hb); (try clear hb2); (try clear hk); (try clear hi))); try go_wp2_with (first | (go_at_call 30; (with_reducible refine (creelkeep_paths.calls _ _ l0 20 t146 _ ?side1 ?side2 ?side3 A4.out).mono ?_); (case side1 => repeat (first | exact HR0.out | (with_reducible refine Kd.C_alloc ?_ _) | (with_reducible refine Kd.C_drewN ?_ _) | (with_reducible refine Kd.C_drew ?_))); (case side2 => exact HC0.out); (case side3 => exact G_below hG_.out (by repeat (first | (with_reducible first | exact HB.out | apply below_alloc | apply pw_below_drewN | apply below_drew1) | exact HB.out))); rintro e w28 ⟨v147, rfl, ho0, hb⟩; have n0_ := Aside0.mk (Kd.R_lower ho0 (below_size (by repeat (first | (with_reducible first | exact HB.out | apply below_alloc | apply pw_below_drewN | apply below_drew1) | exact HB.out)))); have n1_ := Aside0.mk (below_step (by repeat (first | (with_reducible first | exact HB.out | apply below_alloc | apply pw_below_drewN | apply below_drew1) | exact HB.out)) hb); clear HB; have HO148 := n0_; have HB := n1_; clear n0_ n1_; (try clear hb); (try clear hb2); (try clear hk); (try clear hi); (try clear ho0); obtain ⟨Ao29, co29, eo29⟩ := Kd.R_slice HO148.out; subst eo29) | (go_at_call 24; (with_reducible refine (creelkeep_picked.calls a1 (t146.length : Int) t149 _ A5.out).mono ?_); rintro e w' ⟨rfl, ⟨nd, rfl⟩⟩; (try first | exact ⟨rfl, _, World.drewN_drewN _ _ _⟩ | exact ⟨rfl, _, Eq.trans (World.drewN_drewN _ _ _) (congrArg (World.drewN _) (Nat.add_assoc _ _ _))⟩); have p150 : 0 ≤ (t149 : Int) := of_decide_eq_true (by first | (with_reducible assumption) | assumption); have q150 : t149 < (t146.length : Int) := of_decide_eq_true (by first | (with_reducible assumption) | assumption); obtain ⟨ad150, e150, hx150_0⟩ := Kd.at_string (Kd.R_reads' HO148.out).2.2 t149 p150 q150; cases e150; replace p150 := eq_true p150; replace q150 := eq_true q150) | (go_at_call 24; (with_reducible refine (creelkeep_picked.calls a2 (t146.length : Int) t151 _ A8.out).mono ?_); rintro e w' ⟨rfl, ⟨nd, rfl⟩⟩; (try first | exact ⟨rfl, _, World.drewN_drewN _ _ _⟩ | exact ⟨rfl, _, Eq.trans (World.drewN_drewN _ _ _) (congrArg (World.drewN _) (Nat.add_assoc _ _ _))⟩); have p152 : 0 ≤ (t151 : Int) := of_decide_eq_true (by first | (with_reducible assumption) | assumption); have q152 : t151 < (t146.length : Int) := of_decide_eq_true (by first | (with_reducible assumption) | assumption); obtain ⟨ad152, e152, hx152_0⟩ := Kd.at_string (Kd.R_reads' HO148.out).2.2 t151 p152 q152; obtain rfl : ad150 = ad152 := (by injection e152); replace p152 := eq_true p152; replace q152 := eq_true q152) | (go_at_call 33; (with_reducible refine (glob_Fits.calls k (rdOf ByteArray.empty t146 t149) (rdOf ByteArray.empty t146 t151) t153 t154 _ ?side1 A11.out).mono ?_); (case side1 => exact G_below hG_.out (by repeat (first | (with_reducible first | exact HB.out | apply below_alloc | apply pw_below_drewN | apply below_drew1) | exact HB.out))); rintro e w30 ⟨rfl, hb⟩; have n0_ := Aside0.mk (Kd.R_below (by (with_reducible repeat (first | apply Kd.R_alloc | apply Kd.R_drewN | apply Kd.R_drew)); exact HO148.out) hb); have n1_ := Aside0.mk (below_step (by repeat (first | (with_reducible first | exact HB.out | apply below_alloc | apply pw_below_drewN | apply below_drew1) | exact HB.out)) hb); clear HO148; clear HB; have HO148 := n0_; have HB := n1_; clear n0_ n1_; (try clear hb); (try clear hb2); (try clear hk); (try clear hi)) | (go_at_call 33; (with_reducible refine (glob_Fits.calls k (rdOf ByteArray.empty t146 t149) (rdOf ByteArray.empty t146 t149) t155 t156 _ ?side1 A12.out).mono ?_); (case side1 => exact G_below hG_.out (by repeat (first | (with_reducible first | exact HB.out | apply below_alloc | apply pw_below_drewN | apply below_drew1) | exact HB.out))); rintro e w31 ⟨rfl, hb⟩; have n0_ := Aside0.mk (Kd.R_below (by (with_reducible repeat (first | apply Kd.R_alloc | apply Kd.R_drewN | apply Kd.R_drew)); exact HO148.out) hb); have n1_ := Aside0.mk (below_step (by repeat (first | (with_reducible first | exact HB.out | apply below_alloc | apply pw_below_drewN | apply below_drew1) | exact HB.out)) hb); clear HO148; clear HB; have HO148 := n0_; have HB := n1_; clear n0_ n1_; (try clear hb); (try clear hb2); (try clear hk); (try clear hi))))
            all_goals go_ret
            all_goals exact ⟨by first | rfl | (simp [errW_none, errW_some] <;> rfl) | (simp [*, errW_none, errW_some] <;> rfl) | (simp [errW_none, errW_some] <;> (generalize ByteArray.toList _ = l_ <;> cases l_ <;> rfl)), by repeat (first | (with_reducible first | exact HB.out | apply below_alloc | apply pw_below_drewN | apply below_drew1) | exact HB.out)⟩
        · rw [if_neg c10] at H
          exact absurd H (by simp)
      · rw [if_neg c9] at H
        exact absurd H (by simp)
    · rw [if_neg c7] at H
      exact absurd H (by simp)
  · rw [if_neg c6] at H
    exact absurd H (by simp)

/-- THE ONE PURE STATEMENT of creelkeep_GlobSelf: yours. -/
def creelkeep_GlobSelf.Pure : Prop := ∀ (l0 : List (S23)) (a1 : Int) (a2 : Int), l0.length ≤ 1048576 → (∀ x ∈ l0, (Lit.int .i64 x.f0).wf = true ∧ (Lit.int .i64 x.f1).wf = true ∧ (Lit.int .i64 x.f2).wf = true ∧ x.f3.size ≤ 1048576) → (Lit.int .i64 a1).wf = true → (Lit.int .i64 a2).wf = true → ∃ k, creelkeep_GlobSelf.f k l0 a1 a2 = some true
theorem creelkeep_GlobSelf.walk (P : creelkeep_GlobSelf.Pure) (A0 : Option Addr) (c0 : Nat) (l0 : List S23) (a1 : Int) (a2 : Int) (w : World) (hG0_ : G_ w) (hr0 : Kd.C k23 w A0 l0.length l0) (hc0 : l0.length ≤ c0) (u0 : l0.length ≤ 1048576) (x0 : ∀ x ∈ l0, (Lit.int .i64 x.f0).wf = true ∧ (Lit.int .i64 x.f1).wf = true ∧ (Lit.int .i64 x.f2).wf = true ∧ x.f3.size ≤ 1048576) (w1 : (Lit.int .i64 a1).wf = true) (w2 : (Lit.int .i64 a2).wf = true) :
    Calls Tryd.prog 10 #[.slice A0 l0.length c0, .int .i64 a1, .int .i64 a2] w fun e w' => e = .returned (.bool true) ∧ Below w.heap.size w w' := by
  obtain ⟨k, h⟩ := P l0 a1 a2 u0 x0 w1 w2
  refine (creelkeep_GlobSelf.calls k _ _ l0 a1 a2 true w hr0 hc0 hG0_ h).mono ?_
  rintro e w' ⟨rfl, hd⟩
  exact ⟨rfl, hd⟩

end Go.Proofs.YthonjghpblkpgaaDoor.PGlobSelf
