-- Written by a program of this session for this claim (wip/myprint.py over the kit's print).
import Derived.Test.YthonjghpblkpgaaDoorPGlobJoinsx0
import Derived.Test.YthonjghpblkpgaaDoorPGlobJoinsx1
import Derived.Test.YthonjghpblkpgaaDoorPGlobJoinsx3
import Derived.Test.YthonjghpblkpgaaDoorPGlobJoinsx4
import Derived.Test.YthonjghpblkpgaaDoorPGlobJoinsx5
namespace Go.Proofs.YthonjghpblkpgaaDoor.PGlobJoins
open Go.RowKit Go.Proofs.YthonjghpblkpgaaDoorW.PrintWords Go.Proofs.YthonjghpblkpgaaDoorW.PrintLast Go.Proofs.YthonjghpblkpgaaDoorW.PrintMore
attribute [local go_sem] max2_int min2_int max_two min_two max_three min_three max_four min_four   -- for this text's walks alone
set_option linter.unusedVariables false
set_option linter.unusedSimpArgs false

/-! ### glob_parts: function 72 -/
set_option maxHeartbeats 4000000 in
set_option maxRecDepth 100000 in
theorem wildA (n m : Nat) (hn : n ≤ 1000000000) (hm : m ≤ 1000000000) (st : Nat → Bool) (ft : Nat → Nat → Bool) (ps pf : Addr) (w : World)
    (hst : ∀ (W : World) (i : Nat), Below w.heap.size w W → i < n → Calls Tryd.prog 106 #[.int .i64 (i : Int), .pointer (some ps)] W fun e w' => e = .returned (.bool (st i)) ∧ Below W.heap.size W w')
    (hft : ∀ (W : World) (i k : Nat), Below w.heap.size w W → i < n → k < m → st i = false → Calls Tryd.prog 107 #[.int .i64 (i : Int), .int .i64 (k : Int), .pointer (some ps), .pointer (some pf)] W fun e w' => e = .returned (.bool (ft i k)) ∧ Below W.heap.size W w') :
    Calls Tryd.prog 105 #[.int .i64 (n : Int), .int .i64 (m : Int), .func (.func 106) #[] #[.pointer (some ps)], .func (.func 107) #[] #[.pointer (some ps), .pointer (some pf)]] w fun e w' => (∃ b, e = .returned (.bool b) ∧ (b = true ↔ Fit n m st ft 0 0)) ∧ Below w.heap.size w w' := by
  have HS := Aside0.mk hst
  have HF := Aside0.mk hft
  have HN := Aside0.mk hn
  have HM := Aside0.mk hm
  clear hst hft hn hm
  go_enter Tryd.func105, Tryd.ntmps105
  go_wp2_with fail
  go_loopg [9, 10, 11, 12] (wildM n m (-1) 0 0) (fun kq v9 v10 v11 v12 w' => ∃ (i last from_ k : Int), v9 = .int .i64 i ∧ v10 = .int .i64 last ∧ v11 = .int .i64 from_ ∧ v12 = .int .i64 k ∧ Aside0 (At n m st ft i last from_ k) ∧ Aside0 (wildM n m last from_ k ≤ kq) ∧ Aside0 (Below w.heap.size w w'))
  case atStart => exact ⟨0, -1, 0, 0, rfl, rfl, rfl, rfl, ⟨at_start⟩, ⟨Nat.le_refl _⟩, ⟨Below.refl _ _⟩⟩
  case round =>
    obtain ⟨i, last, from_, k, rfl, rfl, rfl, rfl, HA, HK, HB⟩ := hrel
    obtain ⟨i, rfl⟩ := Int.eq_ofNat_of_zero_le HA.out.i0
    obtain ⟨k, rfl⟩ := Int.eq_ofNat_of_zero_le HA.out.k0
    by_cases hk : (k : Int) < (m : Int)
    · have go : i < n ∧ st i = true ∨ i < n ∧ st i = false ∧ ft i k = true ∨ (i < n ∧ st i = false ∧ ft i k = false ∨ ¬ i < n) := by
        by_cases h1 : i < n
        · cases h2 : st i
          · cases h3 : ft i k
            · exact .inr (.inr (.inl ⟨h1, rfl, rfl⟩))
            · exact .inr (.inl ⟨h1, rfl, rfl⟩)
          · exact .inl ⟨h1, rfl⟩
        · exact .inr (.inr (.inr h1))
      rcases go with ⟨hi, hs⟩ | ⟨hi, hs, hf⟩ | hno
      · have hi' : (i : Int) < (n : Int) := by omega
        have HI := Aside0.mk hi
        clear hi
        go_wp2_with (go_at_call 106; refine (HS.out _ i HB.out HI.out).mono ?_; rintro e w2 ⟨rfl, hb2⟩; have HB2 := Aside0.mk (below_step HB.out hb2); clear hb2)
        go_roundg (wildM n m (i : Int) (k : Int) (k : Int))
        case measure =>
          refine Nat.lt_of_lt_of_le ?_ HK.out
          have h1 := HA.out.li
          have h2 := HI.out
          exact lexM m _ _ _ _ _ _ (by omega) (by omega) (.inl (by omega))
        case rel => exact ⟨(i : Int) + 1, i, k, k, by rw [w64 (by omega) (by have := HN.out; omega)], rfl, rfl, rfl, ⟨at_star HA.out (by have := HI.out; omega) (by simpa using hs)⟩, ⟨Nat.le_refl _⟩, HB2⟩
      · have hi' : (i : Int) < (n : Int) := by omega
        have HI := Aside0.mk hi
        clear hi
        go_wp2_with (first | (go_at_call 106; refine (HS.out _ i HB.out HI.out).mono ?_; rintro e w2 ⟨rfl, hb2⟩; have HB2 := Aside0.mk (below_step HB.out hb2); clear hb2) | (go_at_call 107; refine (HF.out _ i k HB2.out HI.out (by omega) (by assumption)).mono ?_; rintro e w3 ⟨rfl, hb3⟩; have HB3 := Aside0.mk (below_step HB2.out hb3); clear hb3))
        go_roundg (wildM n m last from_ ((k : Int) + 1))
        case measure =>
          refine Nat.lt_of_lt_of_le ?_ HK.out
          have h1 := HA.out.f0
          exact lexM m _ _ _ _ _ _ (by omega) (by omega) (.inr ⟨rfl, .inr ⟨rfl, by omega⟩⟩)
        case rel => exact ⟨(i : Int) + 1, last, from_, (k : Int) + 1, by rw [w64 (by omega) (by have := HN.out; omega)], rfl, rfl, by rw [w64 (by omega) (by have := HM.out; omega)], ⟨at_one HA.out (by have := HI.out; omega) hk (by simpa using hs) (by simpa using hf)⟩, ⟨Nat.le_refl _⟩, HB3⟩
      · have hmiss : (i : Int) < n → st (i : Int).toNat = false ∧ ft (i : Int).toNat (k : Int).toNat = false := fun h => by
          rcases hno with ⟨_, h1, h2⟩ | h1
          · simpa using ⟨h1, h2⟩
          · omega
        have HMI := Aside0.mk hmiss
        clear hmiss
        by_cases hl : 0 ≤ last
        · have HL := Aside0.mk hl
          rcases hno with ⟨hi, hs, hf⟩ | hi
          · have hi' : (i : Int) < (n : Int) := by omega
            have HI := Aside0.mk hi
            clear hi
            go_wp2_with (first | (go_at_call 106; refine (HS.out _ i HB.out HI.out).mono ?_; rintro e w2 ⟨rfl, hb2⟩; have HB2 := Aside0.mk (below_step HB.out hb2); clear hb2) | (go_at_call 107; refine (HF.out _ i k HB2.out HI.out (by omega) (by assumption)).mono ?_; rintro e w3 ⟨rfl, hb3⟩; have HB3 := Aside0.mk (below_step HB2.out hb3); clear hb3))
            go_roundg (wildM n m last (from_ + 1) (from_ + 1))
            case measure => 
              refine Nat.lt_of_lt_of_le ?_ HK.out
              have h1 := HA.out.f0
              have h2 := HA.out.fk HL.out
              have h3 := HA.out.li
              exact lexM m _ _ _ _ _ _ (by omega) (by omega) (.inr ⟨rfl, .inl (by omega)⟩)
            case rel => exact ⟨last + 1, last, from_ + 1, from_ + 1, by (have h1 := HA.out.li; have h3 := HA.out.iN; rw [w64 (by omega) (by have := HN.out; omega)]), rfl, by (have h1 := HA.out.f0; have h2 := HA.out.fk HL.out; have h3 := HA.out.li; rw [w64 (by omega) (by have := HM.out; omega)]), by (have h1 := HA.out.f0; have h2 := HA.out.fk HL.out; have h3 := HA.out.li; rw [w64 (by omega) (by have := HM.out; omega)]), ⟨at_again HA.out (by omega) HMI.out HL.out⟩, ⟨Nat.le_refl _⟩, HB3⟩
          · have hi' : ¬ (i : Int) < (n : Int) := by omega
            clear hi
            go_wp2_with fail
            go_roundg (wildM n m last (from_ + 1) (from_ + 1))
            case measure => 
              refine Nat.lt_of_lt_of_le ?_ HK.out
              have h1 := HA.out.f0
              have h2 := HA.out.fk HL.out
              have h3 := HA.out.li
              exact lexM m _ _ _ _ _ _ (by omega) (by omega) (.inr ⟨rfl, .inl (by omega)⟩)
            case rel => exact ⟨last + 1, last, from_ + 1, from_ + 1, by (have h1 := HA.out.li; have h3 := HA.out.iN; rw [w64 (by omega) (by have := HN.out; omega)]), rfl, by (have h1 := HA.out.f0; have h2 := HA.out.fk HL.out; have h3 := HA.out.li; rw [w64 (by omega) (by have := HM.out; omega)]), by (have h1 := HA.out.f0; have h2 := HA.out.fk HL.out; have h3 := HA.out.li; rw [w64 (by omega) (by have := HM.out; omega)]), ⟨at_again HA.out (by omega) HMI.out HL.out⟩, ⟨Nat.le_refl _⟩, HB⟩
        · have hnf := Aside0.mk (at_none HA.out (by omega) HMI.out (by omega))
          rcases hno with ⟨hi, hs, hf⟩ | hi
          · have hi' : (i : Int) < (n : Int) := by omega
            have HI := Aside0.mk hi
            clear hi
            go_wp2_with (first | (go_at_call 106; refine (HS.out _ i HB.out HI.out).mono ?_; rintro e w2 ⟨rfl, hb2⟩; have HB2 := Aside0.mk (below_step HB.out hb2); clear hb2) | (go_at_call 107; refine (HF.out _ i k HB2.out HI.out (by omega) (by assumption)).mono ?_; rintro e w3 ⟨rfl, hb3⟩; have HB3 := Aside0.mk (below_step HB2.out hb3); clear hb3))
            go_ret
            first | exact ⟨⟨false, rfl, by simp [hnf.out]⟩, HB3.out⟩ | exact ⟨.inl ⟨rfl, hnf.out⟩, HB3.out⟩
          · have hi' : ¬ (i : Int) < (n : Int) := by omega
            clear hi
            go_wp2_with fail
            go_ret
            first | exact ⟨⟨false, rfl, by simp [hnf.out]⟩, HB.out⟩ | exact ⟨.inl ⟨rfl, hnf.out⟩, HB.out⟩
    · have hkm : k = m := by have := HA.out.kM; omega
      subst hkm
      have HE := Aside0.mk (at_end HA.out)
      have HIN := Aside0.mk HA.out.iN
      clear HA HK
      go_wp2_with fail
      go_loopg [9] (n - i) (fun kq v9 w' => ∃ j : Nat, v9 = .int .i64 (j : Int) ∧ Aside0 (i ≤ j ∧ j ≤ n ∧ kq = n - j) ∧ Aside0 (∀ q : Nat, i ≤ q → q < j → st q = true) ∧ Aside0 (Below w.heap.size w w'))
      case atStart => exact ⟨i, rfl, ⟨Nat.le_refl _, by have := HIN.out; omega, rfl⟩, ⟨fun q h1 h2 => by omega⟩, HB⟩
      case round =>
        obtain ⟨j, rfl, HJ, HQ, HB2⟩ := hrel
        by_cases hj : j < n
        · have hj' : (j : Int) < (n : Int) := by omega
          have HI := Aside0.mk hj
          clear hj
          by_cases hs : st j = true
          · go_wp2_with (go_at_call 106; refine (HS.out _ j HB2.out HI.out).mono ?_; rintro e w2 ⟨rfl, hb2⟩; have HB3 := Aside0.mk (below_step HB2.out hb2); clear hb2)
            go_roundg (gk - 1)
            case measure => have := HJ.out; have := HI.out; omega
            case rel => exact ⟨j + 1, by rw [w64 (by omega) (by have := HN.out; omega)]; rfl, ⟨by have := HJ.out; omega, HI.out, by have := HJ.out; omega⟩, ⟨fun q h1 h2 => by
              by_cases e : q = j
              · rw [e]; exact hs
              · exact HQ.out q h1 (by omega)⟩, HB3⟩
          · have hs2 : st j = false := by simpa using hs
            have hnf := Aside0.mk (show ¬ Fit n k st ft 0 0 from fun h => by
              have := HE.out.1 h j (by have := HJ.out; omega) HI.out
              rw [hs2] at this; cases this)
            clear hs
            have hne : ((j : Int) == (n : Int)) = false := beq_eq_false_iff_ne.mpr (by have := HI.out; omega)
            go_wp2_with (go_at_call 106; refine (HS.out _ j HB2.out HI.out).mono ?_; rintro e w2 ⟨rfl, hb2⟩; have HB3 := Aside0.mk (below_step HB2.out hb2); clear hb2)
            go_ret
            first | exact ⟨⟨false, rfl, by simp [hnf.out]⟩, HB3.out⟩ | exact ⟨.inl ⟨rfl, hnf.out⟩, HB3.out⟩
        · have hjn : j = n := by have := HJ.out; omega
          subst hjn
          have hf := Aside0.mk (show Fit j k st ft 0 0 from HE.out.2 (fun q h1 h2 => HQ.out q (by omega) h2))
          clear hj
          go_wp2_with fail
          go_ret
          first | exact ⟨⟨true, rfl, by simp [hf.out]⟩, HB2.out⟩ | exact ⟨.inr ⟨rfl, hf.out⟩, HB2.out⟩
set_option maxRecDepth 100000 in
theorem parts1_calls (l : List ByteArray) (A : Option Addr) (c B : Nat) (W : World) (i : Nat) (hC : Kd.C Kd.string W A l.length l) (hB : W.cell? ⟨B, 0, none⟩ = some (.slice A l.length c)) (hi : i < l.length) :
    Calls Tryd.prog 106 #[.int .i64 (i : Int), .pointer (some ⟨B, 0, none⟩)] W fun e w' => e = .returned (.bool ((rdOf ByteArray.empty l (i : Int)).toList == [42, 42])) ∧ Below W.heap.size W w' := by
  have q0 : (0 : Int) ≤ (i : Int) := by omega
  have q1 : (i : Int) < (l.length : Int) := by omega
  obtain ⟨ad, eA, hc⟩ := Kd.at_string hC (i : Int) q0 q1
  simp only [Int.toNat_natCast] at hc
  subst eA
  obtain ⟨s, hs⟩ : ∃ s, s = rdOf ByteArray.empty l (i : Int) := ⟨_, rfl⟩
  rw [← hs] at hc ⊢
  clear hs hi hC
  go_enter Tryd.func106, Tryd.ntmps106
  go_wp2
  go_ret
  exact ⟨by first | rfl | (simp; done), Below.refl _ _⟩
def partsSt (l : List ByteArray) (i : Nat) : Bool := (rdOf ByteArray.empty l (i : Int)).toList == [42, 42]
def partsFt (l s : List ByteArray) (i k : Nat) : Bool := (glob_part.f (rdOf ByteArray.empty l (i : Int)) (rdOf ByteArray.empty s (k : Int))).getD false
def glob_parts.f (l0 l1 : List ByteArray) : Option Bool := if l0.length ≤ 1000000000 ∧ l1.length ≤ 1000000000 ∧ ((List.range l0.length).all fun i => (List.range l1.length).all fun k => partsSt l0 i || (glob_part.f (rdOf ByteArray.empty l0 (i : Int)) (rdOf ByteArray.empty l1 (k : Int))).isSome) = true then some (fitB l0.length l1.length (partsSt l0) (partsFt l0 l1) (l0.length + l1.length) 0 0) else none
set_option maxHeartbeats 4000000 in
set_option maxRecDepth 100000 in
theorem parts2_calls (l s : List ByteArray) (A A2 : Option Addr) (c c2 B B2 : Nat) (W : World) (i k : Nat) (r : Bool) (hC : Kd.C Kd.string W A l.length l) (hC2 : Kd.C Kd.string W A2 s.length s) (hB : ∃ t, W.heap[B]? = some (.cells #[.slice A l.length c] t (0, 0))) (hB2 : ∃ t, W.heap[B2]? = some (.cells #[.slice A2 s.length c2] t (0, 0))) (hi : i < l.length) (hk : k < s.length) (hr : glob_part.f (rdOf ByteArray.empty l (i : Int)) (rdOf ByteArray.empty s (k : Int)) = some r) :
    Calls Tryd.prog 107 #[.int .i64 (i : Int), .int .i64 (k : Int), .pointer (some ⟨B, 0, none⟩), .pointer (some ⟨B2, 0, none⟩)] W fun e w' => e = .returned (.bool r) ∧ Below W.heap.size W w' := by
  have q0 : (0 : Int) ≤ (i : Int) := by omega
  have q1 : (i : Int) < (l.length : Int) := by omega
  have q2 : (0 : Int) ≤ (k : Int) := by omega
  have q3 : (k : Int) < (s.length : Int) := by omega
  obtain ⟨ad, eA, hc⟩ := Kd.at_string hC (i : Int) q0 q1
  obtain ⟨ad2, eA2, hc2⟩ := Kd.at_string hC2 (k : Int) q2 q3
  simp only [Int.toNat_natCast] at hc hc2
  subst eA
  subst eA2
  obtain ⟨t, hB⟩ := hB
  obtain ⟨t2, hB2⟩ := hB2
  obtain ⟨x, hx⟩ : ∃ x, x = rdOf ByteArray.empty l (i : Int) := ⟨_, rfl⟩
  obtain ⟨y, hy⟩ : ∃ y, y = rdOf ByteArray.empty s (k : Int) := ⟨_, rfl⟩
  rw [← hx] at hc hr
  rw [← hy] at hc2 hr
  have HR := Aside0.mk hr
  have HX := Aside0.mk hc
  have HY := Aside0.mk hc2
  have HB := Aside0.mk hB
  have HB2 := Aside0.mk hB2
  clear hi hC hC2 hr hk hx hy hc hc2 hB hB2
  go_enter Tryd.func107, Tryd.ntmps107
  go_upto_region 1 with fail
  have hS : ∀ w', Below W.heap.size W w' → w'.cell? ⟨B, 0, none⟩ = some (.slice (some ad) l.length c) ∧ w'.cell? ⟨B2, 0, none⟩ = some (.slice (some ad2) s.length c2) := fun w' hb => ⟨(blk_cell (blk_below HB.out hb) 0).trans rfl, by
    have h := blk_below HB2.out hb
    exact (blk_cell h 0).trans rfl⟩
  have hL : ∀ w', Below W.heap.size W w' → ∀ a u, W.cell? a = some u → w'.cell? a = some u := fun w' hb a u h => (hb.cell (cellw_lt h)).trans h
  refine region_calm 9 [eqv (.slice (some ad) l.length c), eqv (.int .i64 (i : Int)), cellw (.string x), eqv (.string x), eqv (.slice (some ad2) s.length c2), eqv (.int .i64 (k : Int)), cellw (.string y), eqv (.string y), eqv (.bool r)] (by kernel_rfl) rfl (by kernel_rfl) ?_ (fun vals => ?_) ?_ ?_
  rotate_left
  · simp only [List.take_succ_cons, List.take_zero, putsFrom, Act.put, List.setIfInBounds_toArray, List.set_cons_zero, List.set_cons_succ]
    rfl
  · show calmAll _ _ _ _ _ _ [_, _, _, _, _, _, _, _, _] 0
    refine ⟨?_, ?_, ?_, ?_, ?_, ?_, ?_, ?_, ?_, trivial⟩
    · intro vals w' hb hv
      obtain ⟨s1, s2⟩ := hS w' hb
      clear hv
      go_wp2
      exact ⟨Below.refl _ _, rfl, rfl⟩
    · intro vals w' hb hv
      clear hv
      go_wp2
      exact ⟨Below.refl _ _, rfl, rfl⟩
    · intro vals w' hb hv
      have e0 : vals 0 = .slice (some ad) l.length c := hv 0 (by decide) (by kernel_rfl)
      have e1 : vals 1 = .int .i64 (i : Int) := hv 1 (by decide) (by kernel_rfl)
      have hcell := hL w' hb _ _ HX.out
      have hlt := cellw_lt hcell
      clear hv
      go_wp2
      exact ⟨Below.refl _ _, rfl, _, rfl, hlt, hcell⟩
    · intro vals w' hb hv
      obtain ⟨a9, e0, hlt9, hcell⟩ := hv 2 (by decide) (by kernel_rfl)
      clear hv
      go_wp2
      exact ⟨Below.refl _ _, rfl, rfl⟩
    · intro vals w' hb hv
      obtain ⟨s1, s2⟩ := hS w' hb
      clear hv
      go_wp2
      exact ⟨Below.refl _ _, rfl, rfl⟩
    · intro vals w' hb hv
      clear hv
      go_wp2
      exact ⟨Below.refl _ _, rfl, rfl⟩
    · intro vals w' hb hv
      have e0 : vals 4 = .slice (some ad2) s.length c2 := hv 4 (by decide) (by kernel_rfl)
      have e1 : vals 5 = .int .i64 (k : Int) := hv 5 (by decide) (by kernel_rfl)
      have hcell := hL w' hb _ _ HY.out
      have hlt := cellw_lt hcell
      clear hv
      go_wp2
      exact ⟨Below.refl _ _, rfl, _, rfl, hlt, hcell⟩
    · intro vals w' hb hv
      obtain ⟨a9, e0, hlt9, hcell⟩ := hv 6 (by decide) (by kernel_rfl)
      clear hv
      go_wp2
      exact ⟨Below.refl _ _, rfl, rfl⟩
    · intro vals w' hb hv
      have e0 : vals 3 = .string x := hv 3 (by decide) (by kernel_rfl)
      have e1 : vals 7 = .string y := hv 7 (by decide) (by kernel_rfl)
      clear hv
      go_wp2_with fail
      refine (glob_part.calls x y r _ HR.out).mono ?_
      rintro e w1 ⟨rfl, hb1⟩
      go_wp2
      exact ⟨hb1, rfl, rfl⟩
  intro vals w1 hb1 hend
  have e8 : vals 8 = .bool r := hend.2.2.2.2.2.2.2.2.1
  have HB1 := Aside0.mk hb1
  clear hend hS hL hb1
  go_wp2_with fail
  go_ret
  exact ⟨by first | rfl | (rw [e8]; rfl) | simp [e8], HB1.out⟩
set_option maxHeartbeats 4000000 in
set_option maxRecDepth 100000 in
theorem glob_parts.calls (A0 : Option Addr) (c0 : Nat) (l0 : List ByteArray) (A1 : Option Addr) (c1 : Nat) (l1 : List ByteArray) (r : Bool) (w : World) (hr0 : Kd.C Kd.string w A0 l0.length l0) (hc0 : l0.length ≤ c0) (hr1 : Kd.C Kd.string w A1 l1.length l1) (hc1 : l1.length ≤ c1) (h : glob_parts.f l0 l1 = some r) :
    Calls Tryd.prog 72 #[.slice A0 l0.length c0, .slice A1 l1.length c1] w fun e w' => e = .returned (.bool r) ∧ Below w.heap.size w w' := by
  unfold glob_parts.f at h
  split at h
  case isFalse => cases h
  rename_i hl
  injection h with h
  obtain ⟨hl1, hl2, hl3⟩ := hl
  have HL1 := Aside0.mk hl1
  have HL2 := Aside0.mk hl2
  have HAL := Aside0.mk (show ∀ i k, i < l0.length → k < l1.length → partsSt l0 i = false → glob_part.f (rdOf ByteArray.empty l0 (i : Int)) (rdOf ByteArray.empty l1 (k : Int)) = some (partsFt l0 l1 i k) from fun i k hi hk hst => by
    have h1 := List.all_eq_true.1 (List.all_eq_true.1 hl3 i (List.mem_range.2 hi)) k (List.mem_range.2 hk)
    rw [hst, Bool.false_or] at h1
    exact opt_getD h1)
  have HR := Aside0.mk h
  have HC0 := Aside0.mk hr0
  have HC1 := Aside0.mk hr1
  obtain ⟨w2, hw2⟩ : ∃ w2, w2 = ((w.alloc (.cells #[.slice A0 l0.length c0] 58)).alloc (.cells #[.slice A1 l1.length c1] 58)) := ⟨_, rfl⟩
  have HW2 := Aside0.mk (show Below w.heap.size w w2 from by rw [hw2]; exact below_alloc (below_alloc (Below.refl _ _) _) _)
  have HB0 := Aside0.mk (show w2.heap[w.heap.size]? = some (.cells #[.slice A0 l0.length c0] 58 (0, 0)) from by rw [hw2]; exact (Below.heap_alloc _ _ _ (by simp)).trans (heap_alloc_new _ _))
  have HB1 := Aside0.mk (show w2.heap[w.heap.size + 1]? = some (.cells #[.slice A1 l1.length c1] 58 (0, 0)) from by
    rw [hw2]
    have := heap_alloc_new (w.alloc (.cells #[.slice A0 l0.length c0] 58)) (.cells #[.slice A1 l1.length c1] 58)
    simpa using this)
  have HE := Aside0.mk hw2
  clear h hl1 hl2 hl3 hr0 hr1 hc0 hc1 hw2
  go_enter Tryd.func72, Tryd.ntmps72
  go_wp2_with (go_at_call 105; rw [← HE.out]; refine (wildA l0.length l1.length HL1.out HL2.out (partsSt l0) (partsFt l0 l1) ⟨w.heap.size, 0, none⟩ ⟨w.heap.size + 1, 0, none⟩ w2 (fun W i hb hi => parts1_calls l0 A0 c0 w.heap.size W i (Kd.C_below HC0.out (below_step HW2.out hb)) ((blk_cell (blk_below HB0.out hb) 0).trans rfl) hi) (fun W i k hb hi hk hst => parts2_calls l0 l1 A0 A1 c0 c1 w.heap.size (w.heap.size + 1) W i k _ (Kd.C_below HC0.out (below_step HW2.out hb)) (Kd.C_below HC1.out (below_step HW2.out hb)) ⟨_, blk_below HB0.out hb⟩ ⟨_, blk_below HB1.out hb⟩ hi hk (HAL.out i k hi hk hst))).mono ?_; rintro e w6 ⟨⟨b, rfl, hb⟩, hb6⟩; have HBB := Aside0.mk hb; have HW6 := Aside0.mk (below_step HW2.out hb6); clear hb hb6)
  go_ret
  refine ⟨?_, HW6.out⟩
  have : b = r := by
    rw [← HR.out, Bool.eq_iff_iff, HBB.out, fitB_fit]
  rw [this]
  rfl

/-! ### glob_Fits: function 33 -/
def glob_Fits.f (k : Nat) (a0 : ByteArray) (a1 : ByteArray) : Option (Bool × Int) := (glob_Check.f k a0).bind fun t137 => (if t137 = 0 then ((path_Check.f k a1).bind fun t138 => (if t138 = 0 then ((path_Parts.f a0).bind fun t139 => ((path_Parts.f a1).bind fun t142 => ((glob_parts.f t139 t142).bind fun t145 => (some (t145, 0))))) else (some (false, t138)))) else (some (false, t137)))
theorem glob_Fits.mono : ∀ a0 a1 k, LeO (glob_Fits.f k a0 a1) (glob_Fits.f (k + 1) a0 a1) := by
  intro a0 a1 k
  unfold glob_Fits.f
  repeat' first
      | (with_reducible exact glob_Check.mono _ _)
      | (with_reducible exact path_Check.mono _ _)
      | (with_reducible exact LeO.refl _)
      | (with_reducible exact LeO.none _)
      | (with_reducible refine LeO.ite ?_ ?_)
      | (with_reducible refine LeO.bind ?_ (fun _ => ?_))
      | exact glob_Check.mono _ _
      | exact path_Check.mono _ _
      | exact LeO.none _
      | refine LeO.ite ?_ ?_
      | refine LeO.bind ?_ (fun _ => ?_)
set_option maxHeartbeats 8000000 in
set_option maxRecDepth 100000 in
theorem glob_Fits.calls (k : Nat) (a0 : ByteArray) (a1 : ByteArray) (r1 : Bool) (r2 : Int) (w : World) (hG0_ : G_ w) (h : glob_Fits.f k a0 a1 = some (r1, r2)) :
    Calls Tryd.prog 33 #[.string a0, .string a1] w fun e w' => e = .returned (.tuple #[.bool r1, .int .i64 r2]) ∧ Below w.heap.size w w' := by
  have hG_ := Aside0.mk hG0_
  clear hG0_
  have HB := Aside0.mk (Below.refl w.heap.size w)
  have H : ((glob_Check.f k a0).bind fun t137 => (if t137 = 0 then ((path_Check.f k a1).bind fun t138 => (if t138 = 0 then ((path_Parts.f a0).bind fun t139 => ((path_Parts.f a1).bind fun t142 => ((glob_parts.f t139 t142).bind fun t145 => (some (t145, 0))))) else (some (false, t138)))) else (some (false, t137)))) = some (r1, r2) := h
  clear h
  replace H := Option.bind_eq_some_iff.mp H
  obtain ⟨t137, A30, H⟩ := H
  replace H : (if t137 = 0 then ((path_Check.f k a1).bind fun t138 => (if t138 = 0 then ((path_Parts.f a0).bind fun t139 => ((path_Parts.f a1).bind fun t142 => ((glob_parts.f t139 t142).bind fun t145 => (some (t145, 0))))) else (some (false, t138)))) else (some (false, t137))) = some (r1, r2) := H
  have A3 := Aside0.mk A30
  clear A30
  by_cases c4 : t137 = 0
  · rw [if_pos c4] at H
    have c4b0 : (t137 == 0) = true := beq_iff_eq.mpr c4
    have c4b1 : (t137 != 0) = false := bne_eq_false_iff_eq.mpr c4
    clear c4
    replace H := Option.bind_eq_some_iff.mp H
    obtain ⟨t138, A50, H⟩ := H
    replace H : (if t138 = 0 then ((path_Parts.f a0).bind fun t139 => ((path_Parts.f a1).bind fun t142 => ((glob_parts.f t139 t142).bind fun t145 => (some (t145, 0))))) else (some (false, t138))) = some (r1, r2) := H
    have A5 := Aside0.mk A50
    clear A50
    by_cases c6 : t138 = 0
    · rw [if_pos c6] at H
      have c6b0 : (t138 == 0) = true := beq_iff_eq.mpr c6
      have c6b1 : (t138 != 0) = false := bne_eq_false_iff_eq.mpr c6
      clear c6
      replace H := Option.bind_eq_some_iff.mp H
      obtain ⟨t139, A70, H⟩ := H
      replace H : ((path_Parts.f a1).bind fun t142 => ((glob_parts.f t139 t142).bind fun t145 => (some (t145, 0)))) = some (r1, r2) := H
      have A7 := Aside0.mk A70
      clear A70
      replace H := Option.bind_eq_some_iff.mp H
      obtain ⟨t142, A80, H⟩ := H
      replace H : ((glob_parts.f t139 t142).bind fun t145 => (some (t145, 0))) = some (r1, r2) := H
      have A8 := Aside0.mk A80
      clear A80
      replace H := Option.bind_eq_some_iff.mp H
      obtain ⟨t145, A90, H⟩ := H
      replace H : (some (t145, 0)) = some (r1, r2) := H
      have A9 := Aside0.mk A90
      clear A90
      simp only [Option.some.injEq, Prod.mk.injEq] at H
      obtain ⟨rfl, rfl⟩ := H
      go_enter Tryd.func33, Tryd.ntmps33
      go_wp2_with (first | ((with_reducible refine gate_callee (f := 71) rfl ?_); refine goesL_ (some 9) rfl rfl Tryd.func71 (by kernel_rfl) rfl #[.string a0] rfl (by (try simp only [List.map_toArray, List.map_cons, List.map_nil]); first | done | rfl | (simp only [List.length_drop, List.length_take]; rfl)) ?_; (with_reducible refine (glob_Check.calls k a0 t137 _ ?side1 A3.out).mono ?_); (case side1 => exact G_below hG_.out (by repeat (first | (with_reducible first | exact HB.out | apply below_alloc | apply pw_below_drewN | apply below_drew1) | exact HB.out))); rintro e w10 ⟨rfl, hb⟩; refine ⟨_, rfl, ?_⟩; have n0_ := Aside0.mk (below_step (by repeat (first | (with_reducible first | exact HB.out | apply below_alloc | apply pw_below_drewN | apply below_drew1) | exact HB.out)) hb); clear HB; have HB := n0_; clear n0_; (try clear hb); (try clear hb2); (try clear hk); (try clear hi)) | ((with_reducible refine gate_callee (f := 34) rfl ?_); refine goesL_ (some 14) rfl rfl Tryd.func34 (by kernel_rfl) rfl #[.string a1] rfl (by (try simp only [List.map_toArray, List.map_cons, List.map_nil]); first | done | rfl | (simp only [List.length_drop, List.length_take]; rfl)) ?_; (with_reducible refine (path_Check.calls k a1 t138 _ ?side1 A5.out).mono ?_); (case side1 => exact G_below hG_.out (by repeat (first | (with_reducible first | exact HB.out | apply below_alloc | apply pw_below_drewN | apply below_drew1) | exact HB.out))); rintro e w11 ⟨rfl, hb⟩; refine ⟨_, rfl, ?_⟩; have n0_ := Aside0.mk (below_step (by repeat (first | (with_reducible first | exact HB.out | apply below_alloc | apply pw_below_drewN | apply below_drew1) | exact HB.out)) hb); clear HB; have HB := n0_; clear n0_; (try clear hb); (try clear hb2); (try clear hk); (try clear hi)) | ((with_reducible refine gate_callee (f := 36) rfl ?_); refine goesL_ (some 19) rfl rfl Tryd.func36 (by kernel_rfl) rfl #[.string a0] rfl (by (try simp only [List.map_toArray, List.map_cons, List.map_nil]); first | done | rfl | (simp only [List.length_drop, List.length_take]; rfl)) ?_; (with_reducible refine (path_Parts.calls a0 t139 _ ?side1 A7.out).mono ?_); (case side1 => exact G_below hG_.out (by repeat (first | (with_reducible first | exact HB.out | apply below_alloc | apply pw_below_drewN | apply below_drew1) | exact HB.out))); rintro e w12 ⟨v140, rfl, ho0, hb⟩; refine ⟨_, rfl, ?_⟩; have n0_ := Aside0.mk (Kd.R_lower ho0 (below_size (by repeat (first | (with_reducible first | exact HB.out | apply below_alloc | apply pw_below_drewN | apply below_drew1) | exact HB.out)))); have n1_ := Aside0.mk (below_step (by repeat (first | (with_reducible first | exact HB.out | apply below_alloc | apply pw_below_drewN | apply below_drew1) | exact HB.out)) hb); clear HB; have HO141 := n0_; have HB := n1_; clear n0_ n1_; (try clear hb); (try clear hb2); (try clear hk); (try clear hi); (try clear ho0)) | ((with_reducible refine gate_callee (f := 36) rfl ?_); refine goesL_ (some 21) rfl rfl Tryd.func36 (by kernel_rfl) rfl #[.string a1] rfl (by (try simp only [List.map_toArray, List.map_cons, List.map_nil]); first | done | rfl | (simp only [List.length_drop, List.length_take]; rfl)) ?_; (with_reducible refine (path_Parts.calls a1 t142 _ ?side1 A8.out).mono ?_); (case side1 => exact G_below hG_.out (by repeat (first | (with_reducible first | exact HB.out | apply below_alloc | apply pw_below_drewN | apply below_drew1) | exact HB.out))); rintro e w13 ⟨v143, rfl, ho0, hb⟩; refine ⟨_, rfl, ?_⟩; have n0_ := Aside0.mk (Kd.R_elder' (by (with_reducible repeat (first | apply Kd.R_alloc | apply Kd.R_drewN | apply Kd.R_drew)); exact HO141.out) (Kd.R_base ho0) hb); have n1_ := Aside0.mk (Kd.R_lower (Kd.R_new' ho0 (Kd.R_lt (by (with_reducible repeat (first | apply Kd.R_alloc | apply Kd.R_drewN | apply Kd.R_drew)); exact HO141.out))) (below_size (by repeat (first | (with_reducible first | exact HB.out | apply below_alloc | apply pw_below_drewN | apply below_drew1) | exact HB.out)))); have n2_ := Aside0.mk (below_step (by repeat (first | (with_reducible first | exact HB.out | apply below_alloc | apply pw_below_drewN | apply below_drew1) | exact HB.out)) hb); clear HO141; clear HB; have HO141 := n0_; have HO144 := n1_; have HB := n2_; clear n0_ n1_ n2_; (try clear hb); (try clear hb2); (try clear hk); (try clear hi); (try clear ho0); obtain ⟨Ao14, co14, eo14⟩ := Kd.R_slice HO141.out; subst eo14; obtain ⟨Ao15, co15, eo15⟩ := Kd.R_slice HO144.out; subst eo15) | ((with_reducible refine gate_callee (f := 72) rfl ?_); refine goesL_ (some 22) rfl rfl Tryd.func72 (by kernel_rfl) rfl #[.slice Ao14 t139.length co14, .slice Ao15 t142.length co15] rfl (by (try simp only [List.map_toArray, List.map_cons, List.map_nil]); first | done | rfl | (simp only [List.length_drop, List.length_take]; rfl)) ?_; (with_reducible refine (glob_parts.calls _ _ t139 _ _ t142 t145 _ ?side1 ?side2 ?side3 ?side4 A9.out).mono ?_); (case side1 => repeat (first | exact (Kd.R_reads' HO141.out).2.2 | (with_reducible refine Kd.C_alloc ?_ _) | (with_reducible refine Kd.C_drewN ?_ _) | (with_reducible refine Kd.C_drew ?_))); (case side2 => exact (Kd.R_reads' HO141.out).2.1); (case side3 => repeat (first | exact (Kd.R_reads' HO144.out).2.2 | (with_reducible refine Kd.C_alloc ?_ _) | (with_reducible refine Kd.C_drewN ?_ _) | (with_reducible refine Kd.C_drew ?_))); (case side4 => exact (Kd.R_reads' HO144.out).2.1); rintro e w16 ⟨rfl, hb⟩; refine ⟨_, rfl, ?_⟩; have n0_ := Aside0.mk (Kd.R_below (by (with_reducible repeat (first | apply Kd.R_alloc | apply Kd.R_drewN | apply Kd.R_drew)); exact HO141.out) hb); have n1_ := Aside0.mk (Kd.R_below (by (with_reducible repeat (first | apply Kd.R_alloc | apply Kd.R_drewN | apply Kd.R_drew)); exact HO144.out) hb); have n2_ := Aside0.mk (below_step (by repeat (first | (with_reducible first | exact HB.out | apply below_alloc | apply pw_below_drewN | apply below_drew1) | exact HB.out)) hb); clear HO141; clear HO144; clear HB; have HO141 := n0_; have HO144 := n1_; have HB := n2_; clear n0_ n1_ n2_; (try clear hb); (try clear hb2); (try clear hk); (try clear hi)))
      go_ret2
      exact ⟨by first | rfl | (simp [errW_none, errW_some] <;> rfl) | (simp [*, errW_none, errW_some] <;> rfl) | (simp [errW_none, errW_some] <;> (generalize ByteArray.toList _ = l_ <;> cases l_ <;> rfl)), by repeat (first | (with_reducible first | exact HB.out | apply below_alloc | apply pw_below_drewN | apply below_drew1) | exact HB.out)⟩
    · rw [if_neg c6] at H
      have c6b0 : (t138 == 0) = false := beq_eq_false_iff_ne.mpr c6
      have c6b1 : (t138 != 0) = true := bne_iff_ne.mpr c6
      simp only [Option.some.injEq, Prod.mk.injEq] at H
      obtain ⟨rfl, rfl⟩ := H
      go_enter Tryd.func33, Tryd.ntmps33
      go_wp2_with (first | ((with_reducible refine gate_callee (f := 71) rfl ?_); refine goesL_ (some 9) rfl rfl Tryd.func71 (by kernel_rfl) rfl #[.string a0] rfl (by (try simp only [List.map_toArray, List.map_cons, List.map_nil]); first | done | rfl | (simp only [List.length_drop, List.length_take]; rfl)) ?_; (with_reducible refine (glob_Check.calls k a0 t137 _ ?side1 A3.out).mono ?_); (case side1 => exact G_below hG_.out (by repeat (first | (with_reducible first | exact HB.out | apply below_alloc | apply pw_below_drewN | apply below_drew1) | exact HB.out))); rintro e w17 ⟨rfl, hb⟩; refine ⟨_, rfl, ?_⟩; have n0_ := Aside0.mk (below_step (by repeat (first | (with_reducible first | exact HB.out | apply below_alloc | apply pw_below_drewN | apply below_drew1) | exact HB.out)) hb); clear HB; have HB := n0_; clear n0_; (try clear hb); (try clear hb2); (try clear hk); (try clear hi)) | ((with_reducible refine gate_callee (f := 34) rfl ?_); refine goesL_ (some 14) rfl rfl Tryd.func34 (by kernel_rfl) rfl #[.string a1] rfl (by (try simp only [List.map_toArray, List.map_cons, List.map_nil]); first | done | rfl | (simp only [List.length_drop, List.length_take]; rfl)) ?_; (with_reducible refine (path_Check.calls k a1 t138 _ ?side1 A5.out).mono ?_); (case side1 => exact G_below hG_.out (by repeat (first | (with_reducible first | exact HB.out | apply below_alloc | apply pw_below_drewN | apply below_drew1) | exact HB.out))); rintro e w18 ⟨rfl, hb⟩; refine ⟨_, rfl, ?_⟩; have n0_ := Aside0.mk (below_step (by repeat (first | (with_reducible first | exact HB.out | apply below_alloc | apply pw_below_drewN | apply below_drew1) | exact HB.out)) hb); clear HB; have HB := n0_; clear n0_; (try clear hb); (try clear hb2); (try clear hk); (try clear hi)))
      go_ret2
      exact ⟨by first | rfl | (simp [errW_none, errW_some] <;> rfl) | (simp [*, errW_none, errW_some] <;> rfl) | (simp [errW_none, errW_some] <;> (generalize ByteArray.toList _ = l_ <;> cases l_ <;> rfl)), by repeat (first | (with_reducible first | exact HB.out | apply below_alloc | apply pw_below_drewN | apply below_drew1) | exact HB.out)⟩
  · rw [if_neg c4] at H
    have c4b0 : (t137 == 0) = false := beq_eq_false_iff_ne.mpr c4
    have c4b1 : (t137 != 0) = true := bne_iff_ne.mpr c4
    simp only [Option.some.injEq, Prod.mk.injEq] at H
    obtain ⟨rfl, rfl⟩ := H
    go_enter Tryd.func33, Tryd.ntmps33
    go_wp2_with (first | ((with_reducible refine gate_callee (f := 71) rfl ?_); refine goesL_ (some 9) rfl rfl Tryd.func71 (by kernel_rfl) rfl #[.string a0] rfl (by (try simp only [List.map_toArray, List.map_cons, List.map_nil]); first | done | rfl | (simp only [List.length_drop, List.length_take]; rfl)) ?_; (with_reducible refine (glob_Check.calls k a0 t137 _ ?side1 A3.out).mono ?_); (case side1 => exact G_below hG_.out (by repeat (first | (with_reducible first | exact HB.out | apply below_alloc | apply pw_below_drewN | apply below_drew1) | exact HB.out))); rintro e w19 ⟨rfl, hb⟩; refine ⟨_, rfl, ?_⟩; have n0_ := Aside0.mk (below_step (by repeat (first | (with_reducible first | exact HB.out | apply below_alloc | apply pw_below_drewN | apply below_drew1) | exact HB.out)) hb); clear HB; have HB := n0_; clear n0_; (try clear hb); (try clear hb2); (try clear hk); (try clear hi)))
    go_ret2
    exact ⟨by first | rfl | (simp [errW_none, errW_some] <;> rfl) | (simp [*, errW_none, errW_some] <;> rfl) | (simp [errW_none, errW_some] <;> (generalize ByteArray.toList _ = l_ <;> cases l_ <;> rfl)), by repeat (first | (with_reducible first | exact HB.out | apply below_alloc | apply pw_below_drewN | apply below_drew1) | exact HB.out)⟩

/-! ### creelkeep_Rules: function 35 -/
def creelkeep_Rules.l0 : Nat → Int → List (S69) → List ByteArray → List (S23) → Int → Int → Option ((List (S69)))
  | 0, _, _, _, _, _, _ => none
  | k + 1, x1, x5, x6, x10, x11, x12 => if x12 < x11 then (if 0 ≤ x12 then (if x12 < (x10.length : Int) then (if x12 < x1 then ((creelkeep_picked.f ((rd_T23 x10 x12).f0) 2).bind fun t151 => ((creelkeep_picked.f ((rd_T23 x10 x12).f1) (x6.length : Int)).bind fun t152 => (if 0 ≤ t152 then (if t152 < (x6.length : Int) then (if x5.length < 5864062014805 then (creelkeep_Rules.l0 k x1 (x5 ++ [(⟨(t151 == 0), rdOf ByteArray.empty x6 t152⟩ : S69)]) x6 x10 x11 (wrap64 (x12 + 1))) else (none)) else (none)) else (none)))) else (creelkeep_Rules.l0 k x1 x5 x6 x10 x11 (wrap64 (x12 + 1)))) else (none)) else (none)) else (some x5)
def creelkeep_Rules.f (k : Nat) (l0 : List (S23)) (a1 : Int) : Option ((List (S69))) := creelkeep_Rules.l0 k a1 ([] : List (S69)) (([(⟨#[97]⟩ : ByteArray), (⟨#[42, 42]⟩ : ByteArray), (⟨#[42]⟩ : ByteArray), (⟨#[97, 47, 42, 42]⟩ : ByteArray), (⟨#[42, 42, 47, 98]⟩ : ByteArray), (⟨#[63]⟩ : ByteArray), (⟨#[91, 97, 45, 98, 93]⟩ : ByteArray), (⟨#[91, 33, 97, 93, 42]⟩ : ByteArray), (⟨#[42, 42, 47, 42, 46, 116, 120, 116]⟩ : ByteArray), (⟨#[120, 42]⟩ : ByteArray), (⟨#[97, 98, 47, 42]⟩ : ByteArray), (⟨#[42, 42, 47, 110, 42]⟩ : ByteArray)] : List ByteArray)) l0 (l0.length : Int) 0
theorem creelkeep_Rules.mono_l : ∀ k, (∀ y0 y1 y2 y3 y4 y5, LeO (creelkeep_Rules.l0 k y0 y1 y2 y3 y4 y5) (creelkeep_Rules.l0 (k + 1) y0 y1 y2 y3 y4 y5))
  | 0 => fun _ _ _ _ _ _ r h => by simp [creelkeep_Rules.l0] at h
  | k + 1 => by
    have ih0 := creelkeep_Rules.mono_l k
    · intro y0 y1 y2 y3 y4 y5
      unfold creelkeep_Rules.l0
      repeat' first
      | (with_reducible exact ih0 _ _ _ _ _ _)
      | (with_reducible exact LeO.refl _)
      | (with_reducible exact LeO.none _)
      | (with_reducible refine LeO.ite ?_ ?_)
      | (with_reducible refine LeO.bind ?_ (fun _ => ?_))
      | exact ih0 _ _ _ _ _ _
      | exact LeO.none _
      | refine LeO.ite ?_ ?_
      | refine LeO.bind ?_ (fun _ => ?_)
theorem creelkeep_Rules.mono : ∀ a0 a1 k, LeO (creelkeep_Rules.f k a0 a1) (creelkeep_Rules.f (k + 1) a0 a1) := by
  intro a0 a1 k
  have ih0 := creelkeep_Rules.mono_l k
  unfold creelkeep_Rules.f
  repeat' first
      | (with_reducible exact ih0 _ _ _ _ _ _)
      | (with_reducible exact LeO.refl _)
      | (with_reducible exact LeO.none _)
      | (with_reducible refine LeO.ite ?_ ?_)
      | (with_reducible refine LeO.bind ?_ (fun _ => ?_))
      | exact ih0 _ _ _ _ _ _
      | exact LeO.none _
      | refine LeO.ite ?_ ?_
      | refine LeO.bind ?_ (fun _ => ?_)
def creelkeep_Rules.T7 : Bool × List (List Nat × List Nat) := (true, [([], []), ([], []), ([1], [1]), ([2], [2]), ([3], [3]), ([], []), ([], []), ([6], [6]), ([], []), ([8], [8]), ([7, 9, 3], [7, 9]), ([5, 10], [5, 10]), ([11], [11]), ([4, 12], [4, 12]), ([13], [13]), ([0, 14, 10], [0, 14]), ([15, 15, 0, 1, 2, 3, 4, 5, 6, 7, 8, 9, 10, 11, 12, 13, 14, 15], [0, 15])])
def creelkeep_Rules.B7 : List Nat := [0, 0, 2, 6, 14, 0, 0, 64, 0, 256, 974, 2030, 4078, 8190, 16382, 32767, 65535]
theorem creelkeep_Rules.tab7 : rtab .any (opsOf Tryd.f35 7) = creelkeep_Rules.T7 := by kernel_rfl
theorem creelkeep_Rules.bits7 : waitsOk creelkeep_Rules.T7.2 creelkeep_Rules.B7 = true := by kernel_rfl
set_option maxHeartbeats 8000000 in
set_option maxRecDepth 100000 in
theorem creelkeep_Rules.calls (k : Nat) (A0 : Option Addr) (c0 : Nat) (l0 : List (S23)) (a1 : Int) (r : List (S69)) (w : World) (hr0 : Kd.C k23 w A0 l0.length l0) (hc0 : l0.length ≤ c0) (h : creelkeep_Rules.f k l0 a1 = some r) :
    Calls Tryd.prog 35 #[.slice A0 l0.length c0, .int .i64 a1] w fun e w' => ∃ v0_ : Value, e = .returned (v0_) ∧ Kd.R k69 69 w' w.heap.size (fun _ => True) v0_ r ∧ Below w.heap.size w w' := by
  have hu23 := Tryd.underlying23
  have hu69 := Tryd.underlying69
  have HR0 := Aside0.mk hr0
  have HC0 := Aside0.mk hc0
  clear hr0 hc0
  have HB := Aside0.mk (Below.refl w.heap.size w)
  have H : (creelkeep_Rules.l0 k a1 ([] : List (S69)) (([(⟨#[97]⟩ : ByteArray), (⟨#[42, 42]⟩ : ByteArray), (⟨#[42]⟩ : ByteArray), (⟨#[97, 47, 42, 42]⟩ : ByteArray), (⟨#[42, 42, 47, 98]⟩ : ByteArray), (⟨#[63]⟩ : ByteArray), (⟨#[91, 97, 45, 98, 93]⟩ : ByteArray), (⟨#[91, 33, 97, 93, 42]⟩ : ByteArray), (⟨#[42, 42, 47, 42, 46, 116, 120, 116]⟩ : ByteArray), (⟨#[120, 42]⟩ : ByteArray), (⟨#[97, 98, 47, 42]⟩ : ByteArray), (⟨#[42, 42, 47, 110, 42]⟩ : ByteArray)] : List ByteArray)) l0 (l0.length : Int) 0) = some r := h
  clear h
  obtain ⟨y146, hy146⟩ : ∃ y_ : List ByteArray, y_ = (([(⟨#[97]⟩ : ByteArray), (⟨#[42, 42]⟩ : ByteArray), (⟨#[42]⟩ : ByteArray), (⟨#[97, 47, 42, 42]⟩ : ByteArray), (⟨#[42, 42, 47, 98]⟩ : ByteArray), (⟨#[63]⟩ : ByteArray), (⟨#[91, 97, 45, 98, 93]⟩ : ByteArray), (⟨#[91, 33, 97, 93, 42]⟩ : ByteArray), (⟨#[42, 42, 47, 42, 46, 116, 120, 116]⟩ : ByteArray), (⟨#[120, 42]⟩ : ByteArray), (⟨#[97, 98, 47, 42]⟩ : ByteArray), (⟨#[42, 42, 47, 110, 42]⟩ : ByteArray)] : List ByteArray)) := ⟨_, rfl⟩
  replace H : (creelkeep_Rules.l0 k a1 ([] : List (S69)) y146 l0 (l0.length : Int) 0) = some r := by first | (rw [hy146]; with_reducible exact H) | (have H2_ := (Option.bind_some _ _).symm.trans H; rw [hy146]; with_reducible exact H2_) | (have H2_ := (Option.bind_some _ _).symm.trans H; with_reducible exact H2_) | with_reducible exact H | (rw [hy146]; exact H) | exact H
  have Ny146 := Aside0.mk hy146
  clear hy146
  have H' := Aside0.mk H
  clear H
  go_enter Tryd.func35, Tryd.ntmps35
  go_wp2_with (first | ((with_reducible refine gate_dst (N := 9) rfl ?_); refine Kd.R_lit Kd.string _ 9 ?hg (N := 9) ?hd (xs := ([(⟨#[97]⟩ : ByteArray), (⟨#[42, 42]⟩ : ByteArray), (⟨#[42]⟩ : ByteArray), (⟨#[97, 47, 42, 42]⟩ : ByteArray), (⟨#[42, 42, 47, 98]⟩ : ByteArray), (⟨#[63]⟩ : ByteArray), (⟨#[91, 97, 45, 98, 93]⟩ : ByteArray), (⟨#[91, 33, 97, 93, 42]⟩ : ByteArray), (⟨#[42, 42, 47, 42, 46, 116, 120, 116]⟩ : ByteArray), (⟨#[120, 42]⟩ : ByteArray), (⟨#[97, 98, 47, 42]⟩ : ByteArray), (⟨#[42, 42, 47, 110, 42]⟩ : ByteArray)] : List ByteArray)) (inner := [.string (⟨#[97]⟩ : ByteArray), .string (⟨#[42, 42]⟩ : ByteArray), .string (⟨#[42]⟩ : ByteArray), .string (⟨#[97, 47, 42, 42]⟩ : ByteArray), .string (⟨#[42, 42, 47, 98]⟩ : ByteArray), .string (⟨#[63]⟩ : ByteArray), .string (⟨#[91, 97, 45, 98, 93]⟩ : ByteArray), .string (⟨#[91, 33, 97, 93, 42]⟩ : ByteArray), .string (⟨#[42, 42, 47, 42, 46, 116, 120, 116]⟩ : ByteArray), .string (⟨#[120, 42]⟩ : ByteArray), .string (⟨#[97, 98, 47, 42]⟩ : ByteArray), .string (⟨#[42, 42, 47, 110, 42]⟩ : ByteArray)]) (ok := fun _ => True) (okp := fun _ => True) ?hr ?hp (fun _ hk => hk) trivial (Below.refl _ _) (Nat.le_refl _) (by simp) ?_; (case hd => rfl); (case hg => rfl); (case hr => first | (go_simp; done) | (go_simp; rfl)); (case hp => exact (Reps.one (show Kd.M Kd.string _ _ _ (⟨#[97]⟩ : ByteArray) [.string (⟨#[97]⟩ : ByteArray)] from rfl) (Reps.one (show Kd.M Kd.string _ _ _ (⟨#[42, 42]⟩ : ByteArray) [.string (⟨#[42, 42]⟩ : ByteArray)] from rfl) (Reps.one (show Kd.M Kd.string _ _ _ (⟨#[42]⟩ : ByteArray) [.string (⟨#[42]⟩ : ByteArray)] from rfl) (Reps.one (show Kd.M Kd.string _ _ _ (⟨#[97, 47, 42, 42]⟩ : ByteArray) [.string (⟨#[97, 47, 42, 42]⟩ : ByteArray)] from rfl) (Reps.one (show Kd.M Kd.string _ _ _ (⟨#[42, 42, 47, 98]⟩ : ByteArray) [.string (⟨#[42, 42, 47, 98]⟩ : ByteArray)] from rfl) (Reps.one (show Kd.M Kd.string _ _ _ (⟨#[63]⟩ : ByteArray) [.string (⟨#[63]⟩ : ByteArray)] from rfl) (Reps.one (show Kd.M Kd.string _ _ _ (⟨#[91, 97, 45, 98, 93]⟩ : ByteArray) [.string (⟨#[91, 97, 45, 98, 93]⟩ : ByteArray)] from rfl) (Reps.one (show Kd.M Kd.string _ _ _ (⟨#[91, 33, 97, 93, 42]⟩ : ByteArray) [.string (⟨#[91, 33, 97, 93, 42]⟩ : ByteArray)] from rfl) (Reps.one (show Kd.M Kd.string _ _ _ (⟨#[42, 42, 47, 42, 46, 116, 120, 116]⟩ : ByteArray) [.string (⟨#[42, 42, 47, 42, 46, 116, 120, 116]⟩ : ByteArray)] from rfl) (Reps.one (show Kd.M Kd.string _ _ _ (⟨#[120, 42]⟩ : ByteArray) [.string (⟨#[120, 42]⟩ : ByteArray)] from rfl) (Reps.one (show Kd.M Kd.string _ _ _ (⟨#[97, 98, 47, 42]⟩ : ByteArray) [.string (⟨#[97, 98, 47, 42]⟩ : ByteArray)] from rfl) (Reps.one (show Kd.M Kd.string _ _ _ (⟨#[42, 42, 47, 110, 42]⟩ : ByteArray) [.string (⟨#[42, 42, 47, 110, 42]⟩ : ByteArray)] from rfl) (Reps.none _ _)))))))))))))); intro v147 w3 ho4 hb hg_ hnew_; clear hg_ hnew_; (first | rw [← Ny146.out] at ho4 | (simp only [Int.reduceToNat] at ho4; rw [← Ny146.out] at ho4)); have n0_ := Aside0.mk (Kd.R_lower ho4 (below_size (by repeat (first | (with_reducible first | exact HB.out | apply below_alloc | apply pw_below_drewN | apply below_drew1) | exact HB.out)))); have n1_ := Aside0.mk (below_step (by repeat (first | (with_reducible first | exact HB.out | apply below_alloc | apply pw_below_drewN | apply below_drew1) | exact HB.out)) hb); clear HB; have HO148 := n0_; have HB := n1_; clear n0_ n1_; clear hb ho4))
  go_loopg [5, 12] k (fun kq v5 v12 w' => ∃ (x5_1 : List (S69)) (x12_1 : Int), v12 = .int .i64 x12_1 ∧ Aside0 (creelkeep_Rules.l0 kq a1 x5_1 y146 l0 (l0.length : Int) x12_1 = some r) ∧ Aside0 (kq ≤ k) ∧ Aside0 (Kd.R k69 69 w' w.heap.size (fun _ => True) v5 x5_1) ∧ Aside0 (Kd.R Kd.string 9 w' w.heap.size (fun _ => True) v147 y146) ∧ Aside0 (Below w.heap.size w w'))
  case atStart => exact ⟨(([] : List (S69))), (0), (by first | rfl | (simp; done) | (simp [*]; done)), H', ⟨Nat.le_refl _⟩, ⟨by first | exact Kd.R_nil _ _ _ _ _ | exact Kd.N_nil _ _ _ _ _ | exact Kd.V_nil _ _ _ _ _ | exact Kd.Q_nil _ _ _ _ _ | exact Kd.S_nil _ _ _ _ _⟩, ⟨by (with_reducible repeat (first | apply Kd.R_alloc | apply Kd.R_drewN | apply Kd.R_drew)); exact HO148.out⟩, ⟨by repeat (first | (with_reducible first | exact HB.out | apply below_alloc | apply pw_below_drewN | apply below_drew1) | exact HB.out)⟩⟩
  case round =>
    clear H'
    try clear p2
    try clear c3
    obtain ⟨x5_1, x12_1, rfl, HA, HK1, HO_5, HO_6, HB⟩ := hrel
    cases gk with
    | zero => exact absurd HA.out (by simp [creelkeep_Rules.l0])
    | succ k1 =>
      have H := HA.out
      clear HA
      simp only [creelkeep_Rules.l0] at H
      by_cases c5 : x12_1 < (l0.length : Int)
      · rw [if_pos c5] at H
        have c5b0 : decide (x12_1 < (l0.length : Int)) = true := decide_eq_true c5
        clear c5
        by_cases c6 : 0 ≤ x12_1
        · rw [if_pos c6] at H
          have c6b0 : decide (0 ≤ x12_1) = true := decide_eq_true c6
          clear c6
          by_cases c7 : x12_1 < (l0.length : Int)
          · rw [if_pos c7] at H
            have c7b0 : decide (x12_1 < (l0.length : Int)) = true := decide_eq_true c7
            clear c7
            by_cases c8 : x12_1 < a1
            · rw [if_pos c8] at H
              have c8b0 : decide (x12_1 < a1) = true := decide_eq_true c8
              clear c8
              replace H := Option.bind_eq_some_iff.mp H
              obtain ⟨t151, A90, H⟩ := H
              replace H : ((creelkeep_picked.f ((rd_T23 l0 x12_1).f1) (y146.length : Int)).bind fun t152 => (if 0 ≤ t152 then (if t152 < (y146.length : Int) then (if x5_1.length < 5864062014805 then (creelkeep_Rules.l0 k1 a1 (x5_1 ++ [(⟨(t151 == 0), rdOf ByteArray.empty y146 t152⟩ : S69)]) y146 l0 (l0.length : Int) (wrap64 (x12_1 + 1))) else (none)) else (none)) else (none))) = some r := H
              have A9 := Aside0.mk A90
              clear A90
              replace H := Option.bind_eq_some_iff.mp H
              obtain ⟨t152, A100, H⟩ := H
              replace H : (if 0 ≤ t152 then (if t152 < (y146.length : Int) then (if x5_1.length < 5864062014805 then (creelkeep_Rules.l0 k1 a1 (x5_1 ++ [(⟨(t151 == 0), rdOf ByteArray.empty y146 t152⟩ : S69)]) y146 l0 (l0.length : Int) (wrap64 (x12_1 + 1))) else (none)) else (none)) else (none)) = some r := H
              have A10 := Aside0.mk A100
              clear A100
              by_cases c11 : 0 ≤ t152
              · rw [if_pos c11] at H
                have c11b0 : decide (0 ≤ t152) = true := decide_eq_true c11
                clear c11
                by_cases c12 : t152 < (y146.length : Int)
                · rw [if_pos c12] at H
                  have c12b0 : decide (t152 < (y146.length : Int)) = true := decide_eq_true c12
                  clear c12
                  by_cases c13 : x5_1.length < 5864062014805
                  · rw [if_pos c13] at H
                    have LMc13 := Aside0.mk c13
                    clear c13
                    obtain ⟨y154, hy154⟩ : ∃ y_ : List (S69), y_ = (x5_1 ++ [(⟨(t151 == 0), rdOf ByteArray.empty y146 t152⟩ : S69)]) := ⟨_, rfl⟩
                    replace H : (creelkeep_Rules.l0 k1 a1 y154 y146 l0 (l0.length : Int) (wrap64 (x12_1 + 1))) = some r := by first | (rw [hy154]; with_reducible exact H) | (have H2_ := (Option.bind_some _ _).symm.trans H; rw [hy154]; with_reducible exact H2_) | (have H2_ := (Option.bind_some _ _).symm.trans H; with_reducible exact H2_) | with_reducible exact H | (rw [hy154]; exact H) | exact H
                    have Ny154 := Aside0.mk hy154
                    clear hy154
                    have H' := Aside0.mk H
                    clear H
                    have p149 : 0 ≤ (x12_1 : Int) := of_decide_eq_true (by first | (with_reducible assumption) | assumption)
                    have q149 : x12_1 < (l0.length : Int) := of_decide_eq_true (by first | (with_reducible assumption) | assumption)
                    obtain ⟨ad149, e149, hx149_0, hx149_1, hx149_2, hx149_3⟩ := at_T23 HR0.out x12_1 p149 q149
                    cases e149
                    replace hx149_0 := (HB.out.cell (World.block_lt_of_cell? w _ hx149_0)).trans hx149_0
                    replace hx149_1 := (HB.out.cell (World.block_lt_of_cell? w _ hx149_1)).trans hx149_1
                    replace hx149_2 := (HB.out.cell (World.block_lt_of_cell? w _ hx149_2)).trans hx149_2
                    replace hx149_3 := (HB.out.cell (World.block_lt_of_cell? w _ hx149_3)).trans hx149_3
                    replace p149 := eq_true p149
                    replace q149 := eq_true q149
                    try go_wp2_with (first | ((with_reducible refine gate_dst (N := 8) rfl ?_); refine box_event ?hg (N := 8) ?hd (cs := #[.int .i64 0, .int .i64 0, .int .i64 0, .string (⟨#[]⟩ : ByteArray)]) (t := 23) ?hr ?_; (case hd => rfl); (case hg => rfl); (case hr => first | (go_simp; done) | (go_simp; rfl)); intro gb150 hg w14 hbox hb; have n0_ := Aside0.mk (Kd.R_below (by (with_reducible repeat (first | apply Kd.R_alloc | apply Kd.R_drewN | apply Kd.R_drew)); exact HO_5.out) hb); have n1_ := Aside0.mk (Kd.R_below (by (with_reducible repeat (first | apply Kd.R_alloc | apply Kd.R_drewN | apply Kd.R_drew)); exact HO_6.out) hb); have n2_ := Aside0.mk (below_step (by repeat (first | (with_reducible first | exact HB.out | apply below_alloc | apply pw_below_drewN | apply below_drew1) | exact HB.out)) hb); have n3_ := Aside0.mk (hbox); have n4_ := Aside0.mk ((by rw [hg]; exact (below_size (by repeat (first | (with_reducible first | exact HB.out | apply below_alloc | apply pw_below_drewN | apply below_drew1) | exact HB.out))) : w.heap.size ≤ gb150)); have n5_ := Aside0.mk ((by rw [hg]; exact (below_size (by repeat (first | (with_reducible first | exact HB.out | apply below_alloc | apply pw_below_drewN | apply below_drew1) | exact HB.out))) : w.heap.size ≤ gb150)); clear HO_5; clear HO_6; clear HB; have HO_5 := n0_; have HO_6 := n1_; have HB := n2_; have BK150 := n3_; have GW150 := n4_; have GE150 := n5_; clear n0_ n1_ n2_ n3_ n4_ n5_; clear hb hbox hg; have hcz15_0 : w14.cell? ⟨gb150, 0, none⟩ = some (.int .i64 0) := (blk_cell BK150.out 0).trans rfl; have hcz15_1 : w14.cell? ⟨gb150, 1, none⟩ = some (.int .i64 0) := (blk_cell BK150.out 1).trans rfl; have hcz15_2 : w14.cell? ⟨gb150, 2, none⟩ = some (.int .i64 0) := (blk_cell BK150.out 2).trans rfl; have hcz15_3 : w14.cell? ⟨gb150, 3, none⟩ = some (.string (⟨#[]⟩ : ByteArray)) := (blk_cell BK150.out 3).trans rfl; have hfz15_0 := blk_frozen BK150.out 0; have hfz15_1 := blk_frozen BK150.out 1; have hfz15_2 := blk_frozen BK150.out 2; have hfz15_3 := blk_frozen BK150.out 3))
                    have n0_ : Aside0 (Kd.R k69 69 ((((w14.setCell ⟨gb150, 0, none⟩ (.int .i64 ((rd_T23 l0 x12_1).f0))).setCell ⟨gb150, 1, none⟩ (.int .i64 ((rd_T23 l0 x12_1).f1))).setCell ⟨gb150, 2, none⟩ (.int .i64 ((rd_T23 l0 x12_1).f2))).setCell ⟨gb150, 3, none⟩ (.string ((rd_T23 l0 x12_1).f3))) w.heap.size (fun _ => True) u5 x5_1) := ⟨by (with_reducible repeat (first | apply Kd.R_alloc | apply Kd.R_drewN | apply Kd.R_drew)); exact Kd.R_mono (Kd.R_far (p := ⟨gb150, 3, none⟩) (Kd.R_far (p := ⟨gb150, 2, none⟩) (Kd.R_far (p := ⟨gb150, 1, none⟩) (Kd.R_far (p := ⟨gb150, 0, none⟩) (Kd.R_types HO_5.out BK150.out (by decide)) (fun _ hk => hk.2) (.int .i64 ((rd_T23 l0 x12_1).f0))) (fun _ hk => hk.2) (.int .i64 ((rd_T23 l0 x12_1).f1))) (fun _ hk => hk.2) (.int .i64 ((rd_T23 l0 x12_1).f2))) (fun _ hk => hk.2) (.string ((rd_T23 l0 x12_1).f3))) (fun _ hk => trivial)⟩
                    have n1_ : Aside0 (Kd.R Kd.string 9 ((((w14.setCell ⟨gb150, 0, none⟩ (.int .i64 ((rd_T23 l0 x12_1).f0))).setCell ⟨gb150, 1, none⟩ (.int .i64 ((rd_T23 l0 x12_1).f1))).setCell ⟨gb150, 2, none⟩ (.int .i64 ((rd_T23 l0 x12_1).f2))).setCell ⟨gb150, 3, none⟩ (.string ((rd_T23 l0 x12_1).f3))) w.heap.size (fun _ => True) v147 y146) := ⟨by (with_reducible repeat (first | apply Kd.R_alloc | apply Kd.R_drewN | apply Kd.R_drew)); exact Kd.R_mono (Kd.R_far (p := ⟨gb150, 3, none⟩) (Kd.R_far (p := ⟨gb150, 2, none⟩) (Kd.R_far (p := ⟨gb150, 1, none⟩) (Kd.R_far (p := ⟨gb150, 0, none⟩) (Kd.R_types HO_6.out BK150.out (by decide)) (fun _ hk => hk.2) (.int .i64 ((rd_T23 l0 x12_1).f0))) (fun _ hk => hk.2) (.int .i64 ((rd_T23 l0 x12_1).f1))) (fun _ hk => hk.2) (.int .i64 ((rd_T23 l0 x12_1).f2))) (fun _ hk => hk.2) (.string ((rd_T23 l0 x12_1).f3))) (fun _ hk => trivial)⟩
                    have n2_ : Aside0 (((((w14.setCell ⟨gb150, 0, none⟩ (.int .i64 ((rd_T23 l0 x12_1).f0))).setCell ⟨gb150, 1, none⟩ (.int .i64 ((rd_T23 l0 x12_1).f1))).setCell ⟨gb150, 2, none⟩ (.int .i64 ((rd_T23 l0 x12_1).f2))).setCell ⟨gb150, 3, none⟩ (.string ((rd_T23 l0 x12_1).f3))).heap[gb150]? = some (.cells #[.int .i64 ((rd_T23 l0 x12_1).f0), .int .i64 ((rd_T23 l0 x12_1).f1), .int .i64 ((rd_T23 l0 x12_1).f2), .string ((rd_T23 l0 x12_1).f3)] 23 (0, 0))) := ⟨by (with_reducible repeat (first | refine blk_drewN ?_ _ | refine blk_drew ?_ | refine blk_alloc ?_ _)); refine blk_put (cs := #[.int .i64 ((rd_T23 l0 x12_1).f0), .int .i64 ((rd_T23 l0 x12_1).f1), .int .i64 ((rd_T23 l0 x12_1).f2), .string (⟨#[]⟩ : ByteArray)]) ?_ 3 _ rfl; (with_reducible repeat (first | refine blk_drewN ?_ _ | refine blk_drew ?_ | refine blk_alloc ?_ _)); refine blk_put (cs := #[.int .i64 ((rd_T23 l0 x12_1).f0), .int .i64 ((rd_T23 l0 x12_1).f1), .int .i64 0, .string (⟨#[]⟩ : ByteArray)]) ?_ 2 _ rfl; (with_reducible repeat (first | refine blk_drewN ?_ _ | refine blk_drew ?_ | refine blk_alloc ?_ _)); refine blk_put (cs := #[.int .i64 ((rd_T23 l0 x12_1).f0), .int .i64 0, .int .i64 0, .string (⟨#[]⟩ : ByteArray)]) ?_ 1 _ rfl; (with_reducible repeat (first | refine blk_drewN ?_ _ | refine blk_drew ?_ | refine blk_alloc ?_ _)); refine blk_put (cs := #[.int .i64 0, .int .i64 0, .int .i64 0, .string (⟨#[]⟩ : ByteArray)]) ?_ 0 _ rfl; (with_reducible repeat (first | refine blk_drewN ?_ _ | refine blk_drew ?_ | refine blk_alloc ?_ _)); exact BK150.out⟩
                    have n3_ : Aside0 (Below w.heap.size w ((((w14.setCell ⟨gb150, 0, none⟩ (.int .i64 ((rd_T23 l0 x12_1).f0))).setCell ⟨gb150, 1, none⟩ (.int .i64 ((rd_T23 l0 x12_1).f1))).setCell ⟨gb150, 2, none⟩ (.int .i64 ((rd_T23 l0 x12_1).f2))).setCell ⟨gb150, 3, none⟩ (.string ((rd_T23 l0 x12_1).f3)))) := ⟨by repeat (first | (with_reducible first | exact HB.out | apply below_alloc | apply pw_below_drewN | apply below_drew1 | refine below_set ?_ GE150.out) | exact HB.out)⟩
                    (try clear HO_5)
                    (try clear HO_6)
                    (try clear BK150)
                    (try clear HB)
                    generalize ((((w14.setCell ⟨gb150, 0, none⟩ (.int .i64 ((rd_T23 l0 x12_1).f0))).setCell ⟨gb150, 1, none⟩ (.int .i64 ((rd_T23 l0 x12_1).f1))).setCell ⟨gb150, 2, none⟩ (.int .i64 ((rd_T23 l0 x12_1).f2))).setCell ⟨gb150, 3, none⟩ (.string ((rd_T23 l0 x12_1).f3))) = w16 at n0_ n1_ n2_ n3_ ⊢
                    have HO_5 := n0_
                    have HO_6 := n1_
                    have BK150 := n2_
                    have HB := n3_
                    clear n0_ n1_ n2_ n3_
                    have n0_ := Aside0.mk (Kd.R_drew HO_5.out)
                    have n1_ := Aside0.mk (Kd.R_drew HO_6.out)
                    have n2_ := Aside0.mk (blk_drew BK150.out)
                    have n3_ := Aside0.mk (below_drew1 HB.out)
                    clear HO_5
                    clear HO_6
                    clear BK150
                    clear HB
                    have HO_5 := n0_
                    have HO_6 := n1_
                    have BK150 := n2_
                    have HB := n3_
                    clear n0_ n1_ n2_ n3_
                    obtain ⟨Ao18, co18, eo18⟩ := Kd.R_slice HO_6.out
                    (first | subst eo18 | (injection eo18 with f1_ f2_ f3_; have f4_ := f1_.symm; have f5_ := f3_.symm; clear f1_ f2_ f3_; subst f4_; subst f5_))
                    have p153 : 0 ≤ (t152 : Int) := of_decide_eq_true (by first | (with_reducible assumption) | assumption)
                    have q153 : t152 < (y146.length : Int) := of_decide_eq_true (by first | (with_reducible assumption) | assumption)
                    obtain ⟨ad153, e153, hx153_0⟩ := Kd.at_string (Kd.R_reads' HO_6.out).2.2 t152 p153 q153
                    cases e153
                    replace p153 := eq_true p153
                    replace q153 := eq_true q153
                    refine start_ (n := 17) (S := fun w' => w'.cell? ⟨gb150, 0, none⟩ = some (.int .i64 ((rd_T23 l0 x12_1).f0)) ∧ w'.cell? ⟨gb150, 1, none⟩ = some (.int .i64 ((rd_T23 l0 x12_1).f1)) ∧ w'.cell? ⟨gb150, 2, none⟩ = some (.int .i64 ((rd_T23 l0 x12_1).f2)) ∧ w'.cell? ⟨gb150, 3, none⟩ = some (.string ((rd_T23 l0 x12_1).f3)) ∧ w'.cell? (ad153.add (t152).toNat) = some (.string (rdOf ByteArray.empty y146 t152))) (ds := [14, 15]) #[false, false, false, false, false, false, false, false, false, false, false, false, false, false, false, false, false] (by kernel_rfl) rfl rfl ⟨(blk_cell BK150.out 0).trans rfl, (blk_cell BK150.out 1).trans rfl, (blk_cell BK150.out 2).trans rfl, (blk_cell BK150.out 3).trans rfl, hx153_0⟩ (fun hHeld => ?_); refine with_tabW creelkeep_Rules.tab7 creelkeep_Rules.bits7 (fun HT_ HW_ => ?_)
                    generalize w16.drew = w17 at HO_5 HO_6 BK150 HB hx153_0 hHeld ⊢
                    refine pure_ (i := 0) (N := some 20) (v := ?_) (a' := ?_) #[true, false, false, false, false, false, false, false, false, false, false, false, false, false, false, false, false] rfl rfl (any_of HT_.out (by kernel_rfl)) (fun _ _ _ h => h) (Or.inl ⟨by rfl, ?_⟩) ?_ ?_
                    rotate_left
                    · intro w'
                      go_simp
                      with_reducible rfl
                    rotate_left
                    · simp only [Act.put, List.setIfInBounds_toArray, List.set_cons_zero, List.set_cons_succ, i64_w, i32_w]
                      rfl
                    refine pure_ (i := 1) (N := some 21) (v := ?_) (a' := ?_) #[true, true, false, false, false, false, false, false, false, false, false, false, false, false, false, false, false] rfl rfl (any_of HT_.out (by kernel_rfl)) (fun _ _ _ h => h) (Or.inl ⟨by rfl, ?_⟩) ?_ ?_
                    rotate_left
                    · intro w'
                      go_simp
                      with_reducible rfl
                    rotate_left
                    · simp only [Act.put, List.setIfInBounds_toArray, List.set_cons_zero, List.set_cons_succ, i64_w, i32_w]
                      rfl
                    refine pure_ (i := 5) (N := some 25) (v := ?_) (a' := ?_) #[true, true, false, false, false, true, false, false, false, false, false, false, false, false, false, false, false] rfl rfl (any_of HT_.out (by kernel_rfl)) (fun _ _ _ h => h) (Or.inl ⟨by rfl, ?_⟩) ?_ ?_
                    rotate_left
                    · intro w'
                      go_simp
                      with_reducible rfl
                    rotate_left
                    · simp only [Act.put, List.setIfInBounds_toArray, List.set_cons_zero, List.set_cons_succ, i64_w, i32_w]
                      rfl
                    refine pure_ (i := 6) (N := some 26) (v := ?_) (a' := ?_) #[true, true, false, false, false, true, true, false, false, false, false, false, false, false, false, false, false] rfl rfl (any_of HT_.out (by kernel_rfl)) (fun _ _ _ h => h) (Or.inl ⟨by rfl, ?_⟩) ?_ ?_
                    rotate_left
                    · intro w'
                      go_simp
                      with_reducible rfl
                    rotate_left
                    · simp only [Act.put, List.setIfInBounds_toArray, List.set_cons_zero, List.set_cons_succ, i64_w, i32_w]
                      rfl
                    refine pure_ (i := 8) (N := some 28) (v := ?_) (a' := ?_) #[true, true, false, false, false, true, true, false, true, false, false, false, false, false, false, false, false] rfl rfl (any_of HT_.out (by kernel_rfl)) (fun _ _ _ h => h) (Or.inl ⟨by rfl, ?_⟩) ?_ ?_
                    rotate_left
                    · intro w'
                      go_simp
                      with_reducible rfl
                    rotate_left
                    · simp only [Act.put, List.setIfInBounds_toArray, List.set_cons_zero, List.set_cons_succ, i64_w, i32_w]
                      rfl
                    refine pure_ (i := 9) (N := some 29) (v := ?_) (a' := ?_) #[true, true, false, false, false, true, true, false, true, true, false, false, false, false, false, false, false] rfl rfl (any_of HT_.out (by kernel_rfl)) (fun _ _ _ h => h) (Or.inl ⟨by rfl, ?_⟩) ?_ ?_
                    rotate_left
                    · intro w'
                      go_simp
                      with_reducible rfl
                    rotate_left
                    · simp only [Act.put, List.setIfInBounds_toArray, List.set_cons_zero, List.set_cons_succ, i64_w, i32_w]
                      rfl
                    refine take_ (i := 2) (N := some 22) (v := ?_) (a' := ?_) #[true, true, true, false, false, true, true, false, true, true, false, false, false, false, false, false, false] rfl rfl (take_ofW HT_.out HW_.out (by kernel_rfl)) (fun _ _ _ h => h) (Or.inl ⟨by rfl, ?_⟩) hHeld ?_ ?_
                    rotate_left
                    · rintro w' ⟨s0, s1, s2, s3, s4⟩
                      go_simp
                      with_reducible rfl
                    rotate_left
                    · simp only [Act.put, List.setIfInBounds_toArray, List.set_cons_zero, List.set_cons_succ, i64_w, i32_w]
                      rfl
                    refine take_ (i := 7) (N := some 27) (v := ?_) (a' := ?_) #[true, true, true, false, false, true, true, true, true, true, false, false, false, false, false, false, false] rfl rfl (take_ofW HT_.out HW_.out (by kernel_rfl)) (fun _ _ _ h => h) (Or.inl ⟨by rfl, ?_⟩) hHeld ?_ ?_
                    rotate_left
                    · rintro w' ⟨s0, s1, s2, s3, s4⟩
                      go_simp
                      with_reducible rfl
                    rotate_left
                    · simp only [Act.put, List.setIfInBounds_toArray, List.set_cons_zero, List.set_cons_succ, i64_w, i32_w]
                      rfl
                    refine one_ (i := 3) (N := some 23) #[true, true, true, true, false, true, true, true, true, true, false, false, false, false, false, false, false] rfl rfl (one_of HT_.out (by kernel_rfl)) (by decide) (fun K hK => ?_)
                    refine goes_ Tryd.func24 (by kernel_rfl) rfl #[.int .i64 ((rd_T23 l0 x12_1).f0), .int .i64 2] (by rfl) rfl rfl (by (try simp only [List.map_toArray, List.map_cons, List.map_nil]); first | done | rfl | (simp only [List.length_drop, List.length_take]; rfl)) ?_
                    with_reducible refine (creelkeep_picked.calls ((rd_T23 l0 x12_1).f0) 2 t151 _ A9.out).mono ?_
                    rintro e w' ⟨rfl, ⟨nd, rfl⟩⟩
                    refine ⟨_, rfl, ?_⟩
                    refine hK.out _ _ ⟨(blk_cell BK150.out 0).trans rfl, (blk_cell BK150.out 1).trans rfl, (blk_cell BK150.out 2).trans rfl, (blk_cell BK150.out 3).trans rfl, hHeld.2.2.2.2⟩ (fun hHeld => ?_)
                    clear hK K
                    refine norm_ (a' := ?_) ?_ ?_
                    rotate_left
                    · show Act.put _ (some 23) _ = _
                      simp only [Act.put, List.setIfInBounds_toArray, List.set_cons_zero, List.set_cons_succ, i64_w, i32_w]
                      rfl
                    refine pure_ (i := 4) (N := some 24) (v := ?_) (a' := ?_) #[true, true, true, true, true, true, true, true, true, true, false, false, false, false, false, false, false] rfl rfl (any_of HT_.out (by kernel_rfl)) (fun _ _ _ h => h) (Or.inl ⟨by rfl, ?_⟩) ?_ ?_
                    rotate_left
                    · intro w'
                      go_simp
                      with_reducible rfl
                    rotate_left
                    · simp only [Act.put, List.setIfInBounds_toArray, List.set_cons_zero, List.set_cons_succ, i64_w, i32_w]
                      rfl
                    refine one_ (i := 10) (N := some 30) #[true, true, true, true, true, true, true, true, true, true, true, false, false, false, false, false, false] rfl rfl (one_of HT_.out (by kernel_rfl)) (by decide) (fun K hK => ?_)
                    refine goes_ Tryd.func24 (by kernel_rfl) rfl #[.int .i64 ((rd_T23 l0 x12_1).f1), .int .i64 (y146.length : Int)] (by rfl) rfl rfl (by (try simp only [List.map_toArray, List.map_cons, List.map_nil]); first | done | rfl | (simp only [List.length_drop, List.length_take]; rfl)) ?_
                    with_reducible refine (creelkeep_picked.calls ((rd_T23 l0 x12_1).f1) (y146.length : Int) t152 _ A10.out).mono ?_
                    rintro e w' ⟨rfl, ⟨nd, rfl⟩⟩
                    refine ⟨_, rfl, ?_⟩
                    refine hK.out _ _ ⟨(blk_cell BK150.out 0).trans rfl, (blk_cell BK150.out 1).trans rfl, (blk_cell BK150.out 2).trans rfl, (blk_cell BK150.out 3).trans rfl, hHeld.2.2.2.2⟩ (fun hHeld => ?_)
                    clear hK K
                    refine norm_ (a' := ?_) ?_ ?_
                    rotate_left
                    · show Act.put _ (some 30) _ = _
                      simp only [Act.put, List.setIfInBounds_toArray, List.set_cons_zero, List.set_cons_succ, i64_w, i32_w]
                      rfl
                    refine pure_ (i := 11) (N := some 31) (v := ?_) (a' := ?_) #[true, true, true, true, true, true, true, true, true, true, true, true, false, false, false, false, false] rfl rfl (any_of HT_.out (by kernel_rfl)) (fun _ _ _ h => h) (Or.inl ⟨by rfl, ?_⟩) ?_ ?_
                    rotate_left
                    · intro w'
                      go_simp
                      with_reducible rfl
                    rotate_left
                    · simp only [Act.put, List.setIfInBounds_toArray, List.set_cons_zero, List.set_cons_succ, i64_w, i32_w]
                      rfl
                    refine take_ (i := 12) (N := some 32) (v := ?_) (a' := ?_) #[true, true, true, true, true, true, true, true, true, true, true, true, true, false, false, false, false] rfl rfl (take_ofW HT_.out HW_.out (by kernel_rfl)) (fun _ _ _ h => h) (Or.inl ⟨by rfl, ?_⟩) hHeld ?_ ?_
                    rotate_left
                    · rintro w' ⟨s0, s1, s2, s3, s4⟩
                      go_simp
                      with_reducible rfl
                    rotate_left
                    · simp only [Act.put, List.setIfInBounds_toArray, List.set_cons_zero, List.set_cons_succ, i64_w, i32_w]
                      rfl
                    refine pure_ (i := 13) (N := some 33) (v := ?_) (a' := ?_) #[true, true, true, true, true, true, true, true, true, true, true, true, true, true, false, false, false] rfl rfl (any_of HT_.out (by kernel_rfl)) (fun _ _ _ h => h) (Or.inl ⟨by rfl, ?_⟩) ?_ ?_
                    rotate_left
                    · intro w'
                      go_simp
                      with_reducible rfl
                    rotate_left
                    · simp only [Act.put, List.setIfInBounds_toArray, List.set_cons_zero, List.set_cons_succ, i64_w, i32_w]
                      rfl
                    refine last_ (i := 14) (N := some 34) #[true, true, true, true, true, true, true, true, true, true, true, true, true, true, true, false, false] rfl rfl (one_of HT_.out (by kernel_rfl)) (by decide) (fun K hK => ?_)
                    refine value_ (w1 := ?_) (v := ?_) (by rfl) rfl ?_ ?_
                    rotate_left 2
                    · go_simp
                      constructor
                      · rfl
                      · rfl
                    refine hK.out _ _ ?_
                    clear hK K
                    refine norm_ (a' := ?_) ?_ ?_
                    rotate_left
                    · show Act.put _ (some 34) _ = _
                      simp only [Act.put, List.setIfInBounds_toArray, List.set_cons_zero, List.set_cons_succ, i64_w, i32_w]
                      rfl
                    refine last_ (i := 15) (N := some 35) #[true, true, true, true, true, true, true, true, true, true, true, true, true, true, true, true, false] rfl rfl (one_of HT_.out (by kernel_rfl)) (by decide) (fun K hK => ?_)
                    refine Kd.R_append_step k69 (w0 := w) w.heap.size (by rfl) (.tmp 20) (.tmp 34) 66 69 (.agg #[(.bool false), (.string ⟨#[]⟩)]) 24 rfl Tryd.underlying66 info69 rfl (by decide) (by omega) u5 x5_1 (⟨(t151 == 0), rdOf ByteArray.empty y146 t152⟩ : S69) [.bool (t151 == 0), .string (rdOf ByteArray.empty y146 t152)] (fun _ => True) (fun _ => False) rfl rfl ?aP (fun _ hk => hk.elim) ?aF ?aO ?aB ?aS ?aL ?_
                    (case aP => exact k69_mkM _ _ _ (⟨(t151 == 0), rdOf ByteArray.empty y146 t152⟩ : S69))
                    (case aB => exact (by repeat (first | (with_reducible first | exact HB.out | apply below_alloc | apply pw_below_drewN | apply below_drew1 | refine below_set ?_ GE150.out) | exact HB.out)))
                    (case aF => exact (fun _ _ => trivial))
                    (case aO => exact (by (with_reducible repeat (first | apply Kd.R_alloc | apply Kd.R_drewN | apply Kd.R_drew)); exact HO_5.out))
                    (case aS => exact (below_size (by repeat (first | (with_reducible first | exact HB.out | apply below_alloc | apply pw_below_drewN | apply below_drew1 | refine below_set ?_ GE150.out) | exact HB.out))))
                    (case aL => have := LMc13.out; omega)
                    intro v155 w19 ho hb hg hat
                    rw [← Ny154.out] at ho
                    have n0_ := Aside0.mk (Kd.R_over' (by (with_reducible repeat (first | apply Kd.R_alloc | apply Kd.R_drewN | apply Kd.R_drew)); exact HO_6.out) (Kd.R_typed (by (with_reducible repeat (first | apply Kd.R_alloc | apply Kd.R_drewN | apply Kd.R_drew)); exact HO_5.out)) (by decide) hg)
                    have n1_ := Aside0.mk (blk_grown (g := gb150) (o := .cells #[.int .i64 ((rd_T23 l0 x12_1).f0), .int .i64 ((rd_T23 l0 x12_1).f1), .int .i64 ((rd_T23 l0 x12_1).f2), .string ((rd_T23 l0 x12_1).f3)] 23 (0, 0)) (by (with_reducible repeat (first | refine blk_drewN ?_ _ | refine blk_drew ?_ | refine blk_alloc ?_ _)); exact BK150.out) hg (Kd.R_ne HO_5.out BK150.out (by decide)))
                    have n2_ := Aside0.mk (hb)
                    have n3_ := Aside0.mk (ho)
                    clear HO_6
                    clear BK150
                    clear HB
                    clear HO_5
                    have HO_6 := n0_
                    have BK150 := n1_
                    have HB := n2_
                    have HO156 := n3_
                    clear n0_ n1_ n2_ n3_
                    clear ho hb hg hat
                    refine hK.out _ _ ?_
                    clear hK K
                    refine norm_ (a' := ?_) ?_ ?_
                    rotate_left
                    · show Act.put _ (some 35) _ = _
                      simp only [Act.put, List.setIfInBounds_toArray, List.set_cons_zero, List.set_cons_succ, i64_w, i32_w]
                      rfl
                    refine pure_ (i := 16) (N := some 5) (v := ?_) (a' := ?_) #[true, true, true, true, true, true, true, true, true, true, true, true, true, true, true, true, true] rfl rfl (any_of HT_.out (by kernel_rfl)) (fun _ _ _ h => h) (Or.inl ⟨by rfl, ?_⟩) ?_ ?_
                    rotate_left
                    · intro w'
                      go_simp
                      with_reducible rfl
                    rotate_left
                    · simp only [Act.put, List.setIfInBounds_toArray, List.set_cons_zero, List.set_cons_succ, i64_w, i32_w]
                      rfl
                    refine done_ (done_of HT_.out (by kernel_rfl)) ?_
                    try go_wp2
                    go_roundg k1
                    case measure => have := HK1.out; omega
                    case rel => exact ⟨(y154), (wrap64 (x12_1 + 1)), (by first | rfl | (simp; done) | (simp [*]; done)), H', ⟨by have := HK1.out; omega⟩, ⟨by (with_reducible repeat (first | apply Kd.R_alloc | apply Kd.R_drewN | apply Kd.R_drew)); exact HO156.out⟩, ⟨by (with_reducible repeat (first | apply Kd.R_alloc | apply Kd.R_drewN | apply Kd.R_drew)); exact HO_6.out⟩, ⟨by repeat (first | (with_reducible first | exact HB.out | apply below_alloc | apply pw_below_drewN | apply below_drew1 | refine below_set ?_ GE150.out) | exact HB.out)⟩⟩
                  · rw [if_neg c13] at H
                    exact absurd H (by simp)
                · rw [if_neg c12] at H
                  exact absurd H (by simp)
              · rw [if_neg c11] at H
                exact absurd H (by simp)
            · rw [if_neg c8] at H
              have c8b0 : decide (x12_1 < a1) = false := decide_eq_false c8
              clear c8
              have H' := Aside0.mk H
              clear H
              have p149 : 0 ≤ (x12_1 : Int) := of_decide_eq_true (by first | (with_reducible assumption) | assumption)
              have q149 : x12_1 < (l0.length : Int) := of_decide_eq_true (by first | (with_reducible assumption) | assumption)
              obtain ⟨ad149, e149, hx149_0, hx149_1, hx149_2, hx149_3⟩ := at_T23 HR0.out x12_1 p149 q149
              cases e149
              replace hx149_0 := (HB.out.cell (World.block_lt_of_cell? w _ hx149_0)).trans hx149_0
              replace hx149_1 := (HB.out.cell (World.block_lt_of_cell? w _ hx149_1)).trans hx149_1
              replace hx149_2 := (HB.out.cell (World.block_lt_of_cell? w _ hx149_2)).trans hx149_2
              replace hx149_3 := (HB.out.cell (World.block_lt_of_cell? w _ hx149_3)).trans hx149_3
              replace p149 := eq_true p149
              replace q149 := eq_true q149
              go_wp2_with (first | ((with_reducible refine gate_dst (N := 8) rfl ?_); refine box_event ?hg (N := 8) ?hd (cs := #[.int .i64 0, .int .i64 0, .int .i64 0, .string (⟨#[]⟩ : ByteArray)]) (t := 23) ?hr ?_; (case hd => rfl); (case hg => rfl); (case hr => first | (go_simp; done) | (go_simp; rfl)); intro gb150 hg w20 hbox hb; have n0_ := Aside0.mk (Kd.R_below (by (with_reducible repeat (first | apply Kd.R_alloc | apply Kd.R_drewN | apply Kd.R_drew)); exact HO_5.out) hb); have n1_ := Aside0.mk (Kd.R_below (by (with_reducible repeat (first | apply Kd.R_alloc | apply Kd.R_drewN | apply Kd.R_drew)); exact HO_6.out) hb); have n2_ := Aside0.mk (below_step (by repeat (first | (with_reducible first | exact HB.out | apply below_alloc | apply pw_below_drewN | apply below_drew1) | exact HB.out)) hb); have n3_ := Aside0.mk (hbox); have n4_ := Aside0.mk ((by rw [hg]; exact (below_size (by repeat (first | (with_reducible first | exact HB.out | apply below_alloc | apply pw_below_drewN | apply below_drew1) | exact HB.out))) : w.heap.size ≤ gb150)); have n5_ := Aside0.mk ((by rw [hg]; exact (below_size (by repeat (first | (with_reducible first | exact HB.out | apply below_alloc | apply pw_below_drewN | apply below_drew1) | exact HB.out))) : w.heap.size ≤ gb150)); clear HO_5; clear HO_6; clear HB; have HO_5 := n0_; have HO_6 := n1_; have HB := n2_; have BK150 := n3_; have GW150 := n4_; have GE150 := n5_; clear n0_ n1_ n2_ n3_ n4_ n5_; clear hb hbox hg; have hcz21_0 : w20.cell? ⟨gb150, 0, none⟩ = some (.int .i64 0) := (blk_cell BK150.out 0).trans rfl; have hcz21_1 : w20.cell? ⟨gb150, 1, none⟩ = some (.int .i64 0) := (blk_cell BK150.out 1).trans rfl; have hcz21_2 : w20.cell? ⟨gb150, 2, none⟩ = some (.int .i64 0) := (blk_cell BK150.out 2).trans rfl; have hcz21_3 : w20.cell? ⟨gb150, 3, none⟩ = some (.string (⟨#[]⟩ : ByteArray)) := (blk_cell BK150.out 3).trans rfl; have hfz21_0 := blk_frozen BK150.out 0; have hfz21_1 := blk_frozen BK150.out 1; have hfz21_2 := blk_frozen BK150.out 2; have hfz21_3 := blk_frozen BK150.out 3))
              go_roundg k1
              case measure => have := HK1.out; omega
              case rel => exact ⟨(x5_1), (wrap64 (x12_1 + 1)), (by first | rfl | (simp; done) | (simp [*]; done)), H', ⟨by have := HK1.out; omega⟩, ⟨by (with_reducible repeat (first | apply Kd.R_alloc | apply Kd.R_drewN | apply Kd.R_drew)); exact Kd.R_mono (Kd.R_far (p := ⟨gb150, 3, none⟩) (Kd.R_far (p := ⟨gb150, 2, none⟩) (Kd.R_far (p := ⟨gb150, 1, none⟩) (Kd.R_far (p := ⟨gb150, 0, none⟩) (Kd.R_types HO_5.out BK150.out (by decide)) (fun _ hk => hk.2) (.int .i64 ((rd_T23 l0 x12_1).f0))) (fun _ hk => hk.2) (.int .i64 ((rd_T23 l0 x12_1).f1))) (fun _ hk => hk.2) (.int .i64 ((rd_T23 l0 x12_1).f2))) (fun _ hk => hk.2) (.string ((rd_T23 l0 x12_1).f3))) (fun _ hk => trivial)⟩, ⟨by (with_reducible repeat (first | apply Kd.R_alloc | apply Kd.R_drewN | apply Kd.R_drew)); exact Kd.R_mono (Kd.R_far (p := ⟨gb150, 3, none⟩) (Kd.R_far (p := ⟨gb150, 2, none⟩) (Kd.R_far (p := ⟨gb150, 1, none⟩) (Kd.R_far (p := ⟨gb150, 0, none⟩) (Kd.R_types HO_6.out BK150.out (by decide)) (fun _ hk => hk.2) (.int .i64 ((rd_T23 l0 x12_1).f0))) (fun _ hk => hk.2) (.int .i64 ((rd_T23 l0 x12_1).f1))) (fun _ hk => hk.2) (.int .i64 ((rd_T23 l0 x12_1).f2))) (fun _ hk => hk.2) (.string ((rd_T23 l0 x12_1).f3))) (fun _ hk => trivial)⟩, ⟨by repeat (first | (with_reducible first | exact HB.out | apply below_alloc | apply pw_below_drewN | apply below_drew1 | refine below_set ?_ GE150.out) | exact HB.out)⟩⟩
          · rw [if_neg c7] at H
            exact absurd H (by simp)
        · rw [if_neg c6] at H
          exact absurd H (by simp)
      · rw [if_neg c5] at H
        have c5b0 : decide (x12_1 < (l0.length : Int)) = false := decide_eq_false c5
        clear c5
        obtain rfl := Option.some.inj H
        go_wp2
        go_ret
        exact ⟨_, by first | rfl | (simp [errW_none, errW_some] <;> rfl) | (simp [*, errW_none, errW_some] <;> rfl), by (with_reducible repeat (first | apply Kd.R_alloc | apply Kd.R_drewN | apply Kd.R_drew)); exact HO_5.out, by repeat (first | (with_reducible first | exact HB.out | apply below_alloc | apply pw_below_drewN | apply below_drew1) | exact HB.out)⟩

end Go.Proofs.YthonjghpblkpgaaDoor.PGlobJoins
