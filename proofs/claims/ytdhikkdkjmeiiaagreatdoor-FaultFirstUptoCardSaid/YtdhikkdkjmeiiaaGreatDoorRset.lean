/- glob.set, walked. -/
import Derived.Test.YtdhikkdkjmeiiaaGreatDoorRsplit
namespace Go.Proofs.YtdhikkdkjmeiiaaGreatDoor.Abs
open Go.RowKit Go.MapKept
set_option linter.unusedVariables false
set_option linter.unusedSimpArgs false
set_option maxRecDepth 100000
set_option maxHeartbeats 4000000
def setA (s : ByteArray) : Bool := decide (2 < s.size) && decide (byteAt s 0 = 45) && !decide (byteAt s 1 = 93)
def setHi (lo : Int) (s : ByteArray) : Int := if setA s = true then byteAt s 1 else lo
def setNx (s : ByteArray) : ByteArray := if setA s = true then s.extract 2 s.size else s
def setG (c : Int) (neg : Bool) : Nat → ByteArray → Bool → Nat → Option (Bool × ByteArray)
  | 0, _, _, _ => none
  | f + 1, s, inn, k => if s.size = 0 then none else if 0 < k ∧ byteAt s 0 = 93 then some (inn != neg, s.extract 1 s.size) else setG c neg f (setNx (s.extract 1 s.size)) (inn || (decide (byteAt s 0 ≤ c) && decide (c ≤ setHi (byteAt s 0) (s.extract 1 s.size)))) (k + 1)
/-- A set comes to its end. -/
def okS : Nat → ByteArray → Nat → Bool
  | 0, _, _ => false
  | f + 1, s, k => !decide (s.size = 0) && (decide (0 < k ∧ byteAt s 0 = 93) || okS f (setNx (s.extract 1 s.size)) (k + 1))
theorem okS_some (c : Int) (neg : Bool) : ∀ (f : Nat) (s : ByteArray) (inn : Bool) (k : Nat), okS f s k = true → ∃ r, setG c neg f s inn k = some r
  | 0, _, _, _, h => by cases h
  | f + 1, s, inn, k, h => by
    rw [okS, Bool.and_eq_true, Bool.not_eq_true', decide_eq_false_iff_not] at h
    rw [setG, if_neg h.1]
    by_cases hk : 0 < k ∧ byteAt s 0 = 93
    · rw [if_pos hk]; exact ⟨_, rfl⟩
    · rw [if_neg hk]
      have h2 := h.2
      rw [decide_eq_false hk, Bool.false_or] at h2
      exact okS_some c neg f _ _ _ h2
theorem setA_iff (s : ByteArray) : (setA s = true ∧ 2 < s.size ∧ byteAt s 0 = 45 ∧ byteAt s 1 ≠ 93) ∨ (setA s = false ∧ ¬ 2 < s.size) ∨ (setA s = false ∧ 2 < s.size ∧ byteAt s 0 ≠ 45) ∨ (setA s = false ∧ 2 < s.size ∧ byteAt s 0 = 45 ∧ byteAt s 1 = 93) := by
  unfold setA
  by_cases h1 : 2 < s.size
  · by_cases h2 : byteAt s 0 = 45
    · by_cases h3 : byteAt s 1 = 93
      · exact .inr (.inr (.inr ⟨by rw [decide_eq_true h3]; simp, h1, h2, h3⟩))
      · exact .inl ⟨by rw [decide_eq_true h1, decide_eq_true h2, decide_eq_false h3]; rfl, h1, h2, h3⟩
    · exact .inr (.inr (.inl ⟨by rw [decide_eq_false h2]; simp, h1, h2⟩))
  · exact .inr (.inl ⟨by rw [decide_eq_false h1]; simp, h1⟩)
def setS (s : ByteArray) : ByteArray := if preF (s.extract 1 s.size) ⟨#[33]⟩ = true then (s.extract 1 s.size).extract 1 (s.extract 1 s.size).size else s.extract 1 s.size
def setF (s : ByteArray) (c : Int) : Option (Bool × ByteArray) := setG c (preF (s.extract 1 s.size) ⟨#[33]⟩) 300 (setS s) false 0
theorem set_ac (s : ByteArray) (c : Int) (r : Bool × ByteArray) (h0 : 1 ≤ s.size) (hs : s.size ≤ 100000) (hr : setF s c = some r) : AC CX 128 [.v (.string s), .v (.int .u8 c)] (.tup [.v (.bool r.1), .v (.string r.2)]) := by
  have hx := ext_size s 1
  have hpr := hasPrefix_ac (s.extract 1 s.size) ⟨#[33]⟩ (by omega)
  unfold setF setS at hr
  obtain ⟨z, hz⟩ : ∃ z, z = s.extract 1 s.size := ⟨_, rfl⟩
  rw [← hz] at hx hpr hr
  have hpz : preF z ⟨#[33]⟩ = true → 1 ≤ z.size := fun h => by
    unfold preF at h
    rw [Bool.and_eq_true, decide_eq_true_eq] at h
    exact h.1
  have hzz := ext_size z 1
  obtain ⟨neg, hneg⟩ : ∃ neg, preF z ⟨#[33]⟩ = neg := ⟨_, rfl⟩
  rw [hneg] at hpr hr hpz
  refine AC_walk ⟨TB, 66, 0, [], []⟩ (fn := Tryz.f128) TB_ok Tryz.func128 rfl rfl rfl rfl rfl (fun _ => rfl) (fun _ => rfl) ?_; intro E hna hX
  refine goT ?_
  rw [← hz]
  refine ⟨_, hpr, by kernel_rfl, fun _ => rfl, ?_⟩
  refine goT ?_
  refine cnd_joinG (γ := ByteArray) (fun y => setG c neg 300 y false 0 = some r ∧ y.size ≤ 100000) (fun y => ⟨[(1, .v (.int .u8 c)), (6, .v (.string y)), (7, .v (.bool neg))], []⟩) ?_ ?_
  · refine condB_intro (fun h1 => ?_) (fun h1 => ?_)
    · have h2 := hpz h1
      rw [if_pos h1] at hr
      refine goT ?_
      exact JoinG.mk' _ ⟨hr, by omega⟩ (Drops.to [1, 6, 7] rfl)
    · rw [if_neg (by rw [h1]; decide)] at hr
      refine goT ?_
      exact JoinG.mk' _ ⟨hr, by omega⟩ (Drops.to [1, 6, 7] rfl)
  rintro y ⟨hr, hy⟩
  refine goT ?_
  refine W_loop (γ := Nat × ByteArray × Bool × Nat) (fun g => setG c neg g.1 g.2.1 g.2.2.1 g.2.2.2 = some r ∧ g.2.1.size ≤ 100000 ∧ g.1 + g.2.2.2 ≤ 300) (fun g => g.1) (fun g => ⟨[(1, .v (.int .u8 c)), (6, .v (.string g.2.1)), (7, .v (.bool neg)), (8, .v (.bool g.2.2.1)), (9, .v (.int .i64 g.2.2.2))], []⟩) (300, y, false, 0) ⟨hr, hy, Nat.le_refl _⟩ (Drops.to [1, 6, 7, 8, 9] rfl) ?_
  clear hr hpr hx hpz hzz hneg hs h0 hz hy y
  rintro ⟨f, y, inn, k⟩ ⟨he, hy, hfk⟩
  dsimp only at he hy hfk ⊢
  obtain ⟨f, rfl⟩ : ∃ f', f = f' + 1 := by
    cases f with
    | zero => cases he
    | succ f => exact ⟨f, rfl⟩
  rw [setG] at he
  by_cases hne : y.size = 0
  · rw [if_pos hne] at he; cases he
  rw [if_neg hne] at he
  obtain ⟨z, hz⟩ : ∃ z, z = y.extract 1 y.size := ⟨_, rfl⟩
  have hyy := ext_size y 1
  have hy0 : 0 < y.size := by omega
  rw [← hz] at hyy he
  refine goT ?_
  refine condB_intro (fun h1 => ?_) (fun h1 => ?_)
  · have e1 := of_decide_eq_true h1
    refine goT ?_
    refine condB_intro (fun h2 => ?_) (fun h2 => ?_)
    · have e2 : byteAt y 0 = 93 := of_decide_eq_true h2
      rw [if_pos ⟨by omega, e2⟩] at he
      obtain rfl := (Option.some.inj he).symm
      refine goT ?_
      refine W_draw hX (n := 6) (follows_mixed Tryz.checked) (ws := [[], [], [(0, 28), (1, 29)], [], [(3, 31)], [(0, 28), (1, 29), (2, 30)]]) (ds := [28, 29, 30, 31, 32, 4]) (bi := []) (wa := [(0, 28), (1, 29), (2, 30), (3, 31), (4, 32), (5, 4)]) ⟨by kernel_rfl, by kernel_rfl, by kernel_rfl, by kernel_rfl, by decide, by kernel_rfl, by kernel_rfl, rfl, by decide, rfl⟩ ?_
      refine goT ?_
      rw [hz]
      rfl
    have e2 : byteAt y 0 ≠ 93 := of_decide_eq_false h2
    rw [if_neg (by omega)] at he
    refine goT ?_
    rw [← hz]
    refine condB_intro (fun a1 => ?_) (fun a1 => ?_)
    · have b1 : (z.size : Int) > 2 := of_decide_eq_true a1
      have b4 : 0 < z.size ∧ 1 < z.size := by omega
      refine goT ?_
      refine condB_intro (fun a2 => ?_) (fun a2 => ?_)
      · have b2 : byteAt z 0 = 45 := of_decide_eq_true a2
        refine goT ?_
        refine condB_intro (fun a3 => ?_) (fun a3 => ?_)
        · have b3 : byteAt z 1 ≠ 93 := by simpa using a3
          have ha : setA z = true := by
            unfold setA
            rw [decide_eq_true (by omega), decide_eq_true b2, decide_eq_false b3]; rfl
          unfold setHi setNx at he
          rw [if_pos ha, if_pos ha] at he
          obtain ⟨u, hu⟩ : ∃ u, u = z.extract 2 z.size := ⟨_, rfl⟩
          have hyz := ext_size z 2
          rw [← hu] at hyz he
          refine goT ?_
          rw [← hu]
          refine condB_intro (fun d1 => ?_) (fun d1 => ?_)
          · refine goT ?_
            exact LoopEnd_fin (f, u, inn || (decide (byteAt y 0 ≤ c) && decide (c ≤ byteAt z 1)), k + 1) [1, 6, 7, 8, 9] 0 hX ⟨he, by show (u).size ≤ 100000; omega, by show f + (k + 1) ≤ 300; omega⟩ (Nat.lt_succ_self _) rfl (by rw [d1]; rfl) rfl rfl trivial
          · refine goT ?_
            refine condB_intro (fun d2 => ?_) (fun d2 => ?_)
            · refine goT ?_
              exact LoopEnd_fin (f, u, inn || (decide (byteAt y 0 ≤ c) && decide (c ≤ byteAt z 1)), k + 1) [1, 6, 7, 8, 9] 0 hX ⟨he, by show (u).size ≤ 100000; omega, by show f + (k + 1) ≤ 300; omega⟩ (Nat.lt_succ_self _) rfl (by rw [d1, d2]; rfl) rfl rfl trivial
            · refine goT ?_
              exact LoopEnd_fin (f, u, inn || (decide (byteAt y 0 ≤ c) && decide (c ≤ byteAt z 1)), k + 1) [1, 6, 7, 8, 9] 0 hX ⟨he, by show (u).size ≤ 100000; omega, by show f + (k + 1) ≤ 300; omega⟩ (Nat.lt_succ_self _) rfl (by rw [d1, d2]; rfl) rfl rfl trivial
        · have b3 : byteAt z 1 = 93 := by simpa using a3
          have ha : setA z = false := by
            unfold setA
            rw [decide_eq_true b3]; simp
          unfold setHi setNx at he
          rw [if_neg (by rw [ha]; decide), if_neg (by rw [ha]; decide)] at he
          refine goT ?_
          refine condB_intro (fun d1 => ?_) (fun d1 => ?_)
          · refine goT ?_
            exact LoopEnd_fin (f, z, inn || (decide (byteAt y 0 ≤ c) && decide (c ≤ byteAt y 0)), k + 1) [1, 6, 7, 8, 9] 0 hX ⟨he, by show (z).size ≤ 100000; omega, by show f + (k + 1) ≤ 300; omega⟩ (Nat.lt_succ_self _) rfl (by rw [d1]; rfl) rfl rfl trivial
          · refine goT ?_
            refine condB_intro (fun d2 => ?_) (fun d2 => ?_)
            · refine goT ?_
              exact LoopEnd_fin (f, z, inn || (decide (byteAt y 0 ≤ c) && decide (c ≤ byteAt y 0)), k + 1) [1, 6, 7, 8, 9] 0 hX ⟨he, by show (z).size ≤ 100000; omega, by show f + (k + 1) ≤ 300; omega⟩ (Nat.lt_succ_self _) rfl (by rw [d1, d2]; rfl) rfl rfl trivial
            · refine goT ?_
              exact LoopEnd_fin (f, z, inn || (decide (byteAt y 0 ≤ c) && decide (c ≤ byteAt y 0)), k + 1) [1, 6, 7, 8, 9] 0 hX ⟨he, by show (z).size ≤ 100000; omega, by show f + (k + 1) ≤ 300; omega⟩ (Nat.lt_succ_self _) rfl (by rw [d1, d2]; rfl) rfl rfl trivial
      · have b2 : byteAt z 0 ≠ 45 := of_decide_eq_false a2
        have ha : setA z = false := by
          unfold setA
          rw [decide_eq_false b2]; simp
        unfold setHi setNx at he
        rw [if_neg (by rw [ha]; decide), if_neg (by rw [ha]; decide)] at he
        refine goT ?_
        refine condB_intro (fun d1 => ?_) (fun d1 => ?_)
        · refine goT ?_
          exact LoopEnd_fin (f, z, inn || (decide (byteAt y 0 ≤ c) && decide (c ≤ byteAt y 0)), k + 1) [1, 6, 7, 8, 9] 0 hX ⟨he, by show (z).size ≤ 100000; omega, by show f + (k + 1) ≤ 300; omega⟩ (Nat.lt_succ_self _) rfl (by rw [d1]; rfl) rfl rfl trivial
        · refine goT ?_
          refine condB_intro (fun d2 => ?_) (fun d2 => ?_)
          · refine goT ?_
            exact LoopEnd_fin (f, z, inn || (decide (byteAt y 0 ≤ c) && decide (c ≤ byteAt y 0)), k + 1) [1, 6, 7, 8, 9] 0 hX ⟨he, by show (z).size ≤ 100000; omega, by show f + (k + 1) ≤ 300; omega⟩ (Nat.lt_succ_self _) rfl (by rw [d1, d2]; rfl) rfl rfl trivial
          · refine goT ?_
            exact LoopEnd_fin (f, z, inn || (decide (byteAt y 0 ≤ c) && decide (c ≤ byteAt y 0)), k + 1) [1, 6, 7, 8, 9] 0 hX ⟨he, by show (z).size ≤ 100000; omega, by show f + (k + 1) ≤ 300; omega⟩ (Nat.lt_succ_self _) rfl (by rw [d1, d2]; rfl) rfl rfl trivial
    · have b1 : ¬ (z.size : Int) > 2 := of_decide_eq_false a1
      have ha : setA z = false := by
        unfold setA
        rw [decide_eq_false (by omega)]; rfl
      unfold setHi setNx at he
      rw [if_neg (by rw [ha]; decide), if_neg (by rw [ha]; decide)] at he
      refine goT ?_
      refine condB_intro (fun d1 => ?_) (fun d1 => ?_)
      · refine goT ?_
        exact LoopEnd_fin (f, z, inn || (decide (byteAt y 0 ≤ c) && decide (c ≤ byteAt y 0)), k + 1) [1, 6, 7, 8, 9] 0 hX ⟨he, by show (z).size ≤ 100000; omega, by show f + (k + 1) ≤ 300; omega⟩ (Nat.lt_succ_self _) rfl (by rw [d1]; rfl) rfl rfl trivial
      · refine goT ?_
        refine condB_intro (fun d2 => ?_) (fun d2 => ?_)
        · refine goT ?_
          exact LoopEnd_fin (f, z, inn || (decide (byteAt y 0 ≤ c) && decide (c ≤ byteAt y 0)), k + 1) [1, 6, 7, 8, 9] 0 hX ⟨he, by show (z).size ≤ 100000; omega, by show f + (k + 1) ≤ 300; omega⟩ (Nat.lt_succ_self _) rfl (by rw [d1, d2]; rfl) rfl rfl trivial
        · refine goT ?_
          exact LoopEnd_fin (f, z, inn || (decide (byteAt y 0 ≤ c) && decide (c ≤ byteAt y 0)), k + 1) [1, 6, 7, 8, 9] 0 hX ⟨he, by show (z).size ≤ 100000; omega, by show f + (k + 1) ≤ 300; omega⟩ (Nat.lt_succ_self _) rfl (by rw [d1, d2]; rfl) rfl rfl trivial
  · have e1 := of_decide_eq_false h1
    rw [if_neg (by omega)] at he
    refine goT ?_
    rw [← hz]
    refine condB_intro (fun a1 => ?_) (fun a1 => ?_)
    · have b1 : (z.size : Int) > 2 := of_decide_eq_true a1
      have b4 : 0 < z.size ∧ 1 < z.size := by omega
      refine goT ?_
      refine condB_intro (fun a2 => ?_) (fun a2 => ?_)
      · have b2 : byteAt z 0 = 45 := of_decide_eq_true a2
        refine goT ?_
        refine condB_intro (fun a3 => ?_) (fun a3 => ?_)
        · have b3 : byteAt z 1 ≠ 93 := by simpa using a3
          have ha : setA z = true := by
            unfold setA
            rw [decide_eq_true (by omega), decide_eq_true b2, decide_eq_false b3]; rfl
          unfold setHi setNx at he
          rw [if_pos ha, if_pos ha] at he
          obtain ⟨u, hu⟩ : ∃ u, u = z.extract 2 z.size := ⟨_, rfl⟩
          have hyz := ext_size z 2
          rw [← hu] at hyz he
          refine goT ?_
          rw [← hu]
          refine condB_intro (fun d1 => ?_) (fun d1 => ?_)
          · refine goT ?_
            exact LoopEnd_fin (f, u, inn || (decide (byteAt y 0 ≤ c) && decide (c ≤ byteAt z 1)), k + 1) [1, 6, 7, 8, 9] 0 hX ⟨he, by show (u).size ≤ 100000; omega, by show f + (k + 1) ≤ 300; omega⟩ (Nat.lt_succ_self _) rfl (by rw [d1]; rfl) rfl rfl trivial
          · refine goT ?_
            refine condB_intro (fun d2 => ?_) (fun d2 => ?_)
            · refine goT ?_
              exact LoopEnd_fin (f, u, inn || (decide (byteAt y 0 ≤ c) && decide (c ≤ byteAt z 1)), k + 1) [1, 6, 7, 8, 9] 0 hX ⟨he, by show (u).size ≤ 100000; omega, by show f + (k + 1) ≤ 300; omega⟩ (Nat.lt_succ_self _) rfl (by rw [d1, d2]; rfl) rfl rfl trivial
            · refine goT ?_
              exact LoopEnd_fin (f, u, inn || (decide (byteAt y 0 ≤ c) && decide (c ≤ byteAt z 1)), k + 1) [1, 6, 7, 8, 9] 0 hX ⟨he, by show (u).size ≤ 100000; omega, by show f + (k + 1) ≤ 300; omega⟩ (Nat.lt_succ_self _) rfl (by rw [d1, d2]; rfl) rfl rfl trivial
        · have b3 : byteAt z 1 = 93 := by simpa using a3
          have ha : setA z = false := by
            unfold setA
            rw [decide_eq_true b3]; simp
          unfold setHi setNx at he
          rw [if_neg (by rw [ha]; decide), if_neg (by rw [ha]; decide)] at he
          refine goT ?_
          refine condB_intro (fun d1 => ?_) (fun d1 => ?_)
          · refine goT ?_
            exact LoopEnd_fin (f, z, inn || (decide (byteAt y 0 ≤ c) && decide (c ≤ byteAt y 0)), k + 1) [1, 6, 7, 8, 9] 0 hX ⟨he, by show (z).size ≤ 100000; omega, by show f + (k + 1) ≤ 300; omega⟩ (Nat.lt_succ_self _) rfl (by rw [d1]; rfl) rfl rfl trivial
          · refine goT ?_
            refine condB_intro (fun d2 => ?_) (fun d2 => ?_)
            · refine goT ?_
              exact LoopEnd_fin (f, z, inn || (decide (byteAt y 0 ≤ c) && decide (c ≤ byteAt y 0)), k + 1) [1, 6, 7, 8, 9] 0 hX ⟨he, by show (z).size ≤ 100000; omega, by show f + (k + 1) ≤ 300; omega⟩ (Nat.lt_succ_self _) rfl (by rw [d1, d2]; rfl) rfl rfl trivial
            · refine goT ?_
              exact LoopEnd_fin (f, z, inn || (decide (byteAt y 0 ≤ c) && decide (c ≤ byteAt y 0)), k + 1) [1, 6, 7, 8, 9] 0 hX ⟨he, by show (z).size ≤ 100000; omega, by show f + (k + 1) ≤ 300; omega⟩ (Nat.lt_succ_self _) rfl (by rw [d1, d2]; rfl) rfl rfl trivial
      · have b2 : byteAt z 0 ≠ 45 := of_decide_eq_false a2
        have ha : setA z = false := by
          unfold setA
          rw [decide_eq_false b2]; simp
        unfold setHi setNx at he
        rw [if_neg (by rw [ha]; decide), if_neg (by rw [ha]; decide)] at he
        refine goT ?_
        refine condB_intro (fun d1 => ?_) (fun d1 => ?_)
        · refine goT ?_
          exact LoopEnd_fin (f, z, inn || (decide (byteAt y 0 ≤ c) && decide (c ≤ byteAt y 0)), k + 1) [1, 6, 7, 8, 9] 0 hX ⟨he, by show (z).size ≤ 100000; omega, by show f + (k + 1) ≤ 300; omega⟩ (Nat.lt_succ_self _) rfl (by rw [d1]; rfl) rfl rfl trivial
        · refine goT ?_
          refine condB_intro (fun d2 => ?_) (fun d2 => ?_)
          · refine goT ?_
            exact LoopEnd_fin (f, z, inn || (decide (byteAt y 0 ≤ c) && decide (c ≤ byteAt y 0)), k + 1) [1, 6, 7, 8, 9] 0 hX ⟨he, by show (z).size ≤ 100000; omega, by show f + (k + 1) ≤ 300; omega⟩ (Nat.lt_succ_self _) rfl (by rw [d1, d2]; rfl) rfl rfl trivial
          · refine goT ?_
            exact LoopEnd_fin (f, z, inn || (decide (byteAt y 0 ≤ c) && decide (c ≤ byteAt y 0)), k + 1) [1, 6, 7, 8, 9] 0 hX ⟨he, by show (z).size ≤ 100000; omega, by show f + (k + 1) ≤ 300; omega⟩ (Nat.lt_succ_self _) rfl (by rw [d1, d2]; rfl) rfl rfl trivial
    · have b1 : ¬ (z.size : Int) > 2 := of_decide_eq_false a1
      have ha : setA z = false := by
        unfold setA
        rw [decide_eq_false (by omega)]; rfl
      unfold setHi setNx at he
      rw [if_neg (by rw [ha]; decide), if_neg (by rw [ha]; decide)] at he
      refine goT ?_
      refine condB_intro (fun d1 => ?_) (fun d1 => ?_)
      · refine goT ?_
        exact LoopEnd_fin (f, z, inn || (decide (byteAt y 0 ≤ c) && decide (c ≤ byteAt y 0)), k + 1) [1, 6, 7, 8, 9] 0 hX ⟨he, by show (z).size ≤ 100000; omega, by show f + (k + 1) ≤ 300; omega⟩ (Nat.lt_succ_self _) rfl (by rw [d1]; rfl) rfl rfl trivial
      · refine goT ?_
        refine condB_intro (fun d2 => ?_) (fun d2 => ?_)
        · refine goT ?_
          exact LoopEnd_fin (f, z, inn || (decide (byteAt y 0 ≤ c) && decide (c ≤ byteAt y 0)), k + 1) [1, 6, 7, 8, 9] 0 hX ⟨he, by show (z).size ≤ 100000; omega, by show f + (k + 1) ≤ 300; omega⟩ (Nat.lt_succ_self _) rfl (by rw [d1, d2]; rfl) rfl rfl trivial
        · refine goT ?_
          exact LoopEnd_fin (f, z, inn || (decide (byteAt y 0 ≤ c) && decide (c ≤ byteAt y 0)), k + 1) [1, 6, 7, 8, 9] 0 hX ⟨he, by show (z).size ≤ 100000; omega, by show f + (k + 1) ≤ 300; omega⟩ (Nat.lt_succ_self _) rfl (by rw [d1, d2]; rfl) rfl rfl trivial
end Go.Proofs.YtdhikkdkjmeiiaaGreatDoor.Abs
