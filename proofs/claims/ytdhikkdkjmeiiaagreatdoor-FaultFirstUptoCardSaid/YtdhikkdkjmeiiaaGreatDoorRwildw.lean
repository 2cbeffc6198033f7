/- glob.wild, walked. -/
import Derived.Test.YtdhikkdkjmeiiaaGreatDoorRwild
import Derived.Test.YtdhikkdkjmeiiaaGreatDoorRpath
namespace Go.Proofs.YtdhikkdkjmeiiaaGreatDoor.Abs
open Go.RowKit Go.MapKept
set_option linter.unusedVariables false
set_option linter.unusedSimpArgs false
set_option maxRecDepth 100000
set_option maxHeartbeats 4000000
theorem wild_ac {n m : Nat} (star : Nat → Bool) (fit : Nat → Nat → Bool) (f1 f2 : Nat) (l1 l2 l3 : List AV) (hn : n ≤ 1000000) (hm : m ≤ 1000000) (hf1 : FnOk CX.P f1 = true) (hf2 : FnOk CX.P f2 = true) (h1 : ∀ i : Nat, i < n → AC CX f1 [.v (.int .i64 i), .eptr l1] (.v (.bool (star i)))) (h2 : ∀ i k : Nat, i < n → k < m → AC CX f2 [.v (.int .i64 i), .v (.int .i64 k), .eptr l2, .eptr l3] (.v (.bool (fit i k)))) :
    AC CX 111 [.v (.int .i64 n), .v (.int .i64 m), .fn (.func f1) [.eptr l1], .fn (.func f2) [.eptr l2, .eptr l3]] (.v (.bool (wildF n m star fit))) := by
  refine AC_walk ⟨TB, 64, 0, [], []⟩ (fn := Tryz.f111) TB_ok Tryz.func111 rfl rfl rfl rfl rfl (fun _ => rfl) (fun _ => rfl) ?_; intro E hna hX
  refine goT ?_
  refine W_loop (γ := Nat × Nat × Int × Nat × Nat) (fun g => wildF n m star fit = wildG n m star fit g.1 g.2.1 g.2.2.1 g.2.2.2.1 g.2.2.2.2 ∧ wildM n m g.2.2.1 g.2.2.2.1 g.2.2.2.2 < g.1 ∧ g.2.1 ≤ n ∧ g.2.2.1 < (g.2.1 : Int) ∧ -1 ≤ g.2.2.1 ∧ g.2.2.2.1 ≤ g.2.2.2.2 ∧ g.2.2.2.2 ≤ m) (fun g => g.1) (fun g => ⟨[(0, .v (.int .i64 n)), (1, .v (.int .i64 m)), (2, .fn (.func f1) [.eptr l1]), (3, .fn (.func f2) [.eptr l2, .eptr l3]), (9, .v (.int .i64 g.2.1)), (10, .v (.int .i64 g.2.2.1)), (11, .v (.int .i64 g.2.2.2.1)), (12, .v (.int .i64 g.2.2.2.2))], []⟩) (wildM n m (-1) 0 0 + 1, 0, -1, 0, 0) ⟨rfl, Nat.lt_succ_self _, Nat.zero_le _, by show (-1 : Int) < ((0 : Nat) : Int); omega, Int.le_refl _, Nat.le_refl _, Nat.zero_le _⟩ (Drops.to [0, 1, 2, 3, 9, 10, 11, 12] rfl) ?_
  rintro ⟨f, i, last, fr, k⟩ ⟨he, hM, hi, hl, hl0, hf, hk⟩
  dsimp only at he hM hi hl hl0 hf hk ⊢
  obtain ⟨f, rfl⟩ : ∃ f', f = f' + 1 := ⟨f - 1, by omega⟩
  rw [wildG] at he
  refine goT ?_
  refine condB_intro (fun g1 => ?_) (fun g1 => ?_)
  · have e1 : (k : Int) < (m : Int) := of_decide_eq_true g1
    have e2 : k < m := by omega
    rw [if_pos e2] at he
    have back : ∀ (he2 : wildF n m star fit = if last ≥ 0 then wildG n m star fit f (last + 1).toNat last (fr + 1) (fr + 1) else false), last ≥ 0 → ∃ q : Nat, last = (q : Int) ∧ wildF n m star fit = wildG n m star fit f (q + 1) (q : Int) (fr + 1) (fr + 1) ∧ wildM n m (q : Int) (fr + 1) (fr + 1) < f ∧ q + 1 ≤ n := fun he2 h0 => by
      obtain ⟨q, rfl⟩ := Int.eq_ofNat_of_zero_le h0
      rw [if_pos h0] at he2
      have := wildM_back (n := n) (last := (q : Int)) hf e2
      exact ⟨q, rfl, he2, by omega, by omega⟩
    rcases Nat.lt_or_ge i n with hin | hin
    · have hin' : (i : Int) < (n : Int) := by omega
      refine goT ?_
      refine ⟨_, h1 i hin, hf1, fun _ => rfl, ?_⟩
      refine goT ?_
      refine condB_intro (fun g2 => ?_) (fun g2 => ?_)
      · have := wildM_star hin hl hl0 hf e2
        rw [if_pos ⟨hin, g2⟩] at he
        refine goT ?_
        exact LoopEnd_fin (f, i + 1, (i : Int), k, k) [0, 1, 2, 3, 9, 10, 11, 12] 0 hX ⟨he, by show wildM n m (i : Int) k k < f; omega, hin, by show (i : Int) < ((i + 1 : Nat) : Int); omega, by show (-1 : Int) ≤ (i : Int); omega, Nat.le_refl _, hk⟩ (Nat.lt_succ_self _) rfl rfl rfl rfl trivial
      · rw [if_neg (fun h => by rw [h.2] at g2; cases g2)] at he
        refine goT ?_
        refine ⟨_, h2 i k hin e2, hf2, fun _ => rfl, ?_⟩
        refine goT ?_
        refine condB_intro (fun g3 => ?_) (fun g3 => ?_)
        · have := wildM_fit (n := n) (last := last) (fr := fr) e2
          rw [if_pos ⟨hin, g3⟩] at he
          refine goT ?_
          exact LoopEnd_fin (f, i + 1, last, fr, k + 1) [0, 1, 2, 3, 9, 10, 11, 12] 0 hX ⟨he, by show wildM n m last fr (k + 1) < f; omega, hin, by show last < ((i + 1 : Nat) : Int); omega, hl0, by show fr ≤ k + 1; omega, e2⟩ (Nat.lt_succ_self _) rfl rfl rfl rfl trivial
        · rw [if_neg (fun h => by rw [h.2] at g3; cases g3)] at he
          refine goT ?_
          refine condB_intro (fun g4 => ?_) (fun g4 => ?_)
          · obtain ⟨q, rfl, b1, b2, b3⟩ := back he (of_decide_eq_true g4)
            refine goT ?_
            exact LoopEnd_fin (f, q + 1, (q : Int), fr + 1, fr + 1) [0, 1, 2, 3, 9, 10, 11, 12] 0 hX ⟨b1, b2, b3, by show (q : Int) < ((q + 1 : Nat) : Int); omega, hl0, Nat.le_refl _, by show fr + 1 ≤ m; omega⟩ (Nat.lt_succ_self _) rfl rfl rfl rfl trivial
          · rw [if_neg (of_decide_eq_false g4)] at he
            rw [he]
            refine goT ?_
            rfl
    · have hin' : ¬ (i : Int) < (n : Int) := by omega
      rw [if_neg (fun h => by omega), if_neg (fun h => by omega)] at he
      refine goT ?_
      refine condB_intro (fun g4 => ?_) (fun g4 => ?_)
      · obtain ⟨q, rfl, b1, b2, b3⟩ := back he (of_decide_eq_true g4)
        refine goT ?_
        exact LoopEnd_fin (f, q + 1, (q : Int), fr + 1, fr + 1) [0, 1, 2, 3, 9, 10, 11, 12] 0 hX ⟨b1, b2, b3, by show (q : Int) < ((q + 1 : Nat) : Int); omega, hl0, Nat.le_refl _, by show fr + 1 ≤ m; omega⟩ (Nat.lt_succ_self _) rfl rfl rfl rfl trivial
      · rw [if_neg (of_decide_eq_false g4)] at he
        rw [he]
        refine goT ?_
        rfl
  · have e1 : ¬ (k : Int) < (m : Int) := of_decide_eq_false g1
    rw [if_neg (by omega)] at he
    refine goT ?_
    refine W_loop (fun j : Nat => wildF n m star fit = restB n star j ∧ j ≤ n) (fun j => n - j) (fun j => ⟨[(0, .v (.int .i64 n)), (2, .fn (.func f1) [.eptr l1]), (9, .v (.int .i64 j))], []⟩) i ⟨he, hi⟩ (Drops.to [0, 2, 9] rfl) ?_
    rintro j ⟨hj, hjn⟩
    rcases Nat.lt_or_ge j n with hlt | hge
    · have hlt' : (j : Int) < (n : Int) := by omega
      rw [restB_step hlt] at hj
      refine goT ?_
      refine ⟨_, h1 j hlt, hf1, fun _ => rfl, ?_⟩
      refine goT ?_
      refine condB_intro (fun g2 => ?_) (fun g2 => ?_)
      · rw [g2, Bool.true_and] at hj
        refine goT ?_
        exact LoopEnd_fin (j + 1) [0, 2, 9] 0 hX ⟨hj, hlt⟩ (by omega) rfl rfl rfl rfl trivial
      · rw [g2, Bool.false_and] at hj
        rw [hj]
        have hd : decide ((j : Int) = (n : Int)) = false := decide_eq_false (by omega)
        refine goT ?_
        rw [hd]
        rfl
    · obtain rfl : j = n := by omega
      have hge' : ¬ (j : Int) < (j : Int) := by omega
      rw [restB_end (Nat.le_refl _)] at hj
      rw [hj]
      have hd : decide ((j : Int) = (j : Int)) = true := decide_eq_true rfl
      refine goT ?_
      rw [hd]
      rfl
end Go.Proofs.YtdhikkdkjmeiiaaGreatDoor.Abs
