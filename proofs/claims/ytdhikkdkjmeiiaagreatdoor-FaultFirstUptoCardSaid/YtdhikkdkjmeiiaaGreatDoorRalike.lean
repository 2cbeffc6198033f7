/- Alike. -/
import Derived.Test.YtdhikkdkjmeiiaaGreatDoorRgroups
import Derived.Test.YtdhikkdkjmeiiaaGreatDoorRsame
import Derived.Test.YtdhikkdkjmeiiaaGreatDoorRdiff
import Derived.Test.YtdhikkdkjmeiiaaGreatDoorDr8
namespace Go.Proofs.YtdhikkdkjmeiiaaGreatDoor.Abs
open Go.RowKit Go.MapKept
set_option linter.unusedVariables false
set_option linter.unusedSimpArgs false
set_option maxRecDepth 100000
set_option maxHeartbeats 4000000
def linkB (t : List NodeT) (i k : Nat) : Bool := decide (fz t i > 0) && decide (fz t i = fz t k)
def sameAt (a b : List NodeT) (i : Nat) : Bool := match a[i]?, b[i]? with
  | some x, some y => sameF x y
  | _, _ => false
def AlikeP (a b : List NodeT) : Prop := a.length = b.length ∧ ∀ i, i < a.length → (sameAt a b i = true ∧ ∀ k, k < i → linkB a i k = linkB b i k)
instance alike_dec (a b : List NodeT) : Decidable (AlikeP a b) := by unfold AlikeP; infer_instance
theorem same0 (x y : NodeT) : decide (({ x with same := 0 } : NodeT) = { y with same := 0 }) = sameF x y := by
  unfold sameF
  rw [Bool.eq_iff_iff]
  cases x; cases y
  simp
/-- A node's cells before it is told. -/
def encZero : List AV := [.v (.string ⟨#[]⟩), .v (.int .i64 0), .v (.int .i64 0), .v (.string ⟨#[]⟩), .v (.int .i64 0), .v (.int .i64 0), .v (.int .i64 0), .v (.string ⟨#[]⟩), .v (.string ⟨#[]⟩), .v (.int .i64 0), .v (.int .i64 0), .v (.slice none 0 0)]
theorem aliket_ac (a b : List NodeT) (ha : a.length ≤ 1000000) (hb : b.length ≤ 1000000) : AC CX 21 [.row 12 (a.map encNode), .row 12 (b.map encNode)] (.v (.bool (decide (AlikeP a b)))) := by
  refine AC_walk ⟨TB, 78, 0, [], []⟩ (fn := Tryz.f21) TB_ok Tryz.func21 rfl rfl rfl rfl rfl (fun _ => rfl) (fun _ => rfl) ?_; intro E hna hX
  refine goT ?_
  refine condB_intro (fun h0 => ?_) (fun h0 => ?_)
  · have e0 : ¬ AlikeP a b := fun h => by
      have := h.1
      simp at h0
      omega
    rw [decide_eq_false e0]
    refine goT ?_
    rfl
  have e0 : a.length = b.length := by
    simp at h0
    omega
  refine goT ?_
  refine W_loop (fun i : Nat => i ≤ a.length ∧ ∀ j, j < i → (sameAt a b j = true ∧ ∀ k, k < j → linkB a j k = linkB b j k)) (fun i => a.length - i) (fun i => ⟨[(0, .row 12 (a.map encNode)), (1, .row 12 (b.map encNode)), (15, .v (.int .i64 a.length)), (16, .v (.int .i64 i))], []⟩) 0 ⟨Nat.zero_le _, fun j h => absurd h (Nat.not_lt_zero _)⟩ (Drops.to [0, 1, 15, 16] rfl) ?_
  rintro i ⟨hi, hI⟩
  refine goT ?_
  refine condB_intro (fun h1 => ?_) (fun h1 => ?_)
  · have e1 : (i : Int) < (a.length : Int) := of_decide_eq_true h1
    obtain ⟨x, hx⟩ := get_lt (l := a) (k := i) (by omega)
    obtain ⟨y, hy⟩ := get_lt (l := b) (k := i) (by omega)
    have hxy : sameAt a b i = sameF x y := by unfold sameAt; rw [hx, hy]
    have hsn := sameNode_ac { x with same := 0 } { y with same := 0 }
    rw [same0] at hsn
    refine goT ?_
    refine W_drawA hX (n := 11) (follows_mixed Tryz.checked) [.row 12 (a.map encNode), .v (.int .i64 i), .eptr (encNode x), .agg (encNode x), .row 12 (b.map encNode), .v (.int .i64 i), .eptr (encNode y), .agg (encNode y), .ptr 0 0, .ptr 1 0, .junk] [(8, some 10), (9, none)] [(.cells 40 encZero, .cells 40 (encNode x)), (.cells 40 encZero, .cells 40 encZero)] (ws := [[], [], [(0, 19), (1, 20)], [(2, 21)], [], [], [(4, 23), (5, 24)], [(6, 25)], [], [], [(0, 19), (1, 20), (2, 21), (3, 22), (8, 6), (9, 7)]]) (kss := [[0, 0], [0, 0], [0, 0], [0, 0], [0, 0], [0, 0], [0, 0], [0, 0], [0, 0], [0, 0], [1, 1]]) (kf := [2, 1]) (ds := [19, 20, 21, 22, 23, 24, 25, 26, 6, 7]) (wa := [(0, 19), (1, 20), (2, 21), (3, 22), (4, 23), (5, 24), (6, 25), (7, 26), (8, 6), (9, 7)]) ⟨by kernel_rfl, by kernel_rfl, by kernel_rfl, by kernel_rfl, by kernel_rfl, by kernel_rfl, by decide, by kernel_rfl, by kernel_rfl, by decide, by decide, by kernel_rfl, by kernel_rfl⟩ rfl (by kernel_rfl) ?_ rfl (by kernel_rfl) ?_ ?_
    · exact ⟨fun _ => ⟨rfl, rfl⟩, fun _ => ⟨rfl, rfl⟩, True.intro⟩
    · exact ⟨rfl, rfl, ⟨i, rfl, _, get_mapN hx, rfl⟩, rfl, rfl, rfl, ⟨i, rfl, _, get_mapN hy, rfl⟩, rfl, ⟨rfl, rfl⟩, ⟨rfl, rfl⟩, rfl, True.intro⟩
    refine goT ?_
    refine ⟨_, hsn, by kernel_rfl, fun _ => rfl, ?_⟩
    refine goT ?_
    refine condB_intro (fun h2 => ?_) (fun h2 => ?_)
    · have e2 : ¬ AlikeP a b := fun h => by
        have := (h.2 i (by omega)).1
        rw [hxy] at this
        rw [this] at h2
        cases h2
      rw [decide_eq_false e2]
      refine goT ?_
      rfl
    have hs : sameF x y = true := by simpa using h2
    have hfa := fz_at hx
    have hfb := fz_at hy
    refine goT ?_
    refine W_loop (fun k : Nat => k ≤ i ∧ ∀ j, j < k → linkB a i j = linkB b i j) (fun k => i - k) (fun k => ⟨[(0, .row 12 (a.map encNode)), (1, .row 12 (b.map encNode)), (15, .v (.int .i64 a.length)), (16, .v (.int .i64 i)), (5, .v (.int .i64 i)), (33, .v (.int .i64 i)), (34, .v (.int .i64 k))], []⟩) 0 ⟨Nat.zero_le _, fun j h => absurd h (Nat.not_lt_zero _)⟩ (Drops.fin [0, 1, 15, 16, 5, 33, 34] 0 (by rw [hX.np]; exact Nat.zero_le _) rfl rfl rfl trivial) ?_
    rintro k ⟨hk, hK⟩
    refine goT ?_
    refine condB_intro (fun h3 => ?_) (fun h3 => ?_)
    · have e3 : (k : Int) < (i : Int) := of_decide_eq_true h3
      obtain ⟨u, hu⟩ := get_lt (l := a) (k := k) (by omega)
      obtain ⟨v, hv⟩ := get_lt (l := b) (k := k) (by omega)
      have hla : linkB a i k = (decide (x.same > 0) && decide (x.same = u.same)) := by unfold linkB; rw [hfa, fz_at hu]
      have hlb : linkB b i k = (decide (y.same > 0) && decide (y.same = v.same)) := by unfold linkB; rw [hfb, fz_at hv]
      have step : ∀ A B : Bool, linkB a i k = A → linkB b i k = B → (!(A == B)) = false → ∀ s, Drops CX E s ⟨[(0, .row 12 (a.map encNode)), (1, .row 12 (b.map encNode)), (15, .v (.int .i64 a.length)), (16, .v (.int .i64 i)), (5, .v (.int .i64 i)), (33, .v (.int .i64 i)), (34, .v (.int .i64 (k + 1 : Nat)))], []⟩ → LoopEnd CX E (fun k : Nat => k ≤ i ∧ ∀ j, j < k → linkB a i j = linkB b i j) (fun k => i - k) (fun k => ⟨[(0, .row 12 (a.map encNode)), (1, .row 12 (b.map encNode)), (15, .v (.int .i64 a.length)), (16, .v (.int .i64 i)), (5, .v (.int .i64 i)), (33, .v (.int .i64 i)), (34, .v (.int .i64 k))], []⟩) k s := fun A B hA hB hAB s hd => ⟨k + 1, ⟨by omega, fun j hj => by
        by_cases e : j = k
        · subst e
          rw [hA, hB]
          simpa using hAB
        · exact hK j (by omega)⟩, by omega, hd⟩
      have stop : ∀ A B : Bool, linkB a i k = A → linkB b i k = B → (!(A == B)) = true → ¬ AlikeP a b := fun A B hA hB hAB h => by
        have := (h.2 i (by omega)).2 k (by omega)
        rw [hA, hB] at this
        rw [this] at hAB
        simp at hAB
      by_cases hx0 : x.same > 0
      · rw [decide_eq_true hx0, Bool.true_and] at hla
        by_cases hy0 : y.same > 0
        · rw [decide_eq_true hy0, Bool.true_and] at hlb
          refine goT ?_
          refine W_draw hX (n := 39) (follows_mixed Tryz.checked) (ws := [[], [], [(0, 37), (1, 38)], [(2, 39)], [(3, 40)], [(4, 41)], [(5, 42)], [(6, 43)], [(6, 43)], [(6, 43), (7, 44), (8, 45)], [(6, 43), (9, 46)], [(6, 43), (10, 47)], [(6, 43)], [(6, 43)], [(6, 43), (12, 49), (13, 50)], [(6, 43), (14, 51)], [(6, 43), (15, 52)], [(6, 43), (11, 48), (16, 53)], [(6, 43), (17, 54)], [], [], [(19, 56), (20, 57)], [(21, 58)], [(22, 59)], [(23, 60)], [(6, 43), (24, 61)], [(25, 62)], [(25, 62)], [(25, 62), (26, 63), (27, 64)], [(25, 62), (28, 65)], [(25, 62), (29, 66)], [(25, 62)], [(25, 62)], [(25, 62), (31, 68), (32, 69)], [(25, 62), (33, 70)], [(25, 62), (34, 71)], [(25, 62), (30, 67), (35, 72)], [(25, 62), (36, 73)], [(18, 55), (37, 74)]]) (ds := [37, 38, 39, 40, 41, 42, 43, 44, 45, 46, 47, 48, 49, 50, 51, 52, 53, 54, 55, 56, 57, 58, 59, 60, 61, 62, 63, 64, 65, 66, 67, 68, 69, 70, 71, 72, 73, 74, 75]) (bi := []) (wa := [(0, 37), (1, 38), (2, 39), (3, 40), (4, 41), (5, 42), (6, 43), (7, 44), (8, 45), (9, 46), (10, 47), (11, 48), (12, 49), (13, 50), (14, 51), (15, 52), (16, 53), (17, 54), (18, 55), (19, 56), (20, 57), (21, 58), (22, 59), (23, 60), (24, 61), (25, 62), (26, 63), (27, 64), (28, 65), (29, 66), (30, 67), (31, 68), (32, 69), (33, 70), (34, 71), (35, 72), (36, 73), (37, 74), (38, 75)]) ⟨by kernel_rfl, by kernel_rfl, by kernel_rfl, by kernel_rfl, by decide, by kernel_rfl, by kernel_rfl, rfl, by decide, rfl⟩ ?_
          refine goT ?_
          refine condB_intro (fun h4 => ?_) (fun h4 => ?_)
          · rw [decide_eq_false (stop _ _ hla hlb h4)]
            refine goT ?_
            rfl
          · refine goT ?_
            exact step _ _ hla hlb h4 _ (Drops.to [0, 1, 15, 16, 5, 33, 34] rfl)
        · rw [decide_eq_false hy0, Bool.false_and] at hlb
          refine goT ?_
          refine W_draw hX (n := 39) (follows_mixed Tryz.checked) (ws := [[], [], [(0, 37), (1, 38)], [(2, 39)], [(3, 40)], [(4, 41)], [(5, 42)], [(6, 43)], [(6, 43)], [(6, 43), (7, 44), (8, 45)], [(6, 43), (9, 46)], [(6, 43), (10, 47)], [(6, 43)], [(6, 43)], [(6, 43), (12, 49), (13, 50)], [(6, 43), (14, 51)], [(6, 43), (15, 52)], [(6, 43), (11, 48), (16, 53)], [(6, 43), (17, 54)], [], [], [(19, 56), (20, 57)], [(21, 58)], [(22, 59)], [(23, 60)], [(6, 43), (24, 61)], [(25, 62)], [(25, 62)], [(25, 62), (26, 63), (27, 64)], [(25, 62), (28, 65)], [(25, 62), (29, 66)], [(25, 62)], [(25, 62)], [(25, 62), (31, 68), (32, 69)], [(25, 62), (33, 70)], [(25, 62), (34, 71)], [(25, 62), (30, 67), (35, 72)], [(25, 62), (36, 73)], [(18, 55), (37, 74)]]) (ds := [37, 38, 39, 40, 41, 42, 43, 44, 45, 46, 47, 48, 49, 50, 51, 52, 53, 54, 55, 56, 57, 58, 59, 60, 61, 62, 63, 64, 65, 66, 67, 68, 69, 70, 71, 72, 73, 74, 75]) (bi := []) (wa := [(0, 37), (1, 38), (2, 39), (3, 40), (4, 41), (5, 42), (6, 43), (7, 44), (8, 45), (9, 46), (10, 47), (11, 48), (12, 49), (13, 50), (14, 51), (15, 52), (16, 53), (17, 54), (18, 55), (19, 56), (20, 57), (21, 58), (22, 59), (23, 60), (24, 61), (25, 62), (26, 63), (27, 64), (28, 65), (29, 66), (30, 67), (31, 68), (32, 69), (33, 70), (34, 71), (35, 72), (36, 73), (37, 74), (38, 75)]) ⟨by kernel_rfl, by kernel_rfl, by kernel_rfl, by kernel_rfl, by decide, by kernel_rfl, by kernel_rfl, rfl, by decide, rfl⟩ ?_
          refine goT ?_
          refine condB_intro (fun h4 => ?_) (fun h4 => ?_)
          · rw [decide_eq_false (stop _ _ hla hlb h4)]
            refine goT ?_
            rfl
          · refine goT ?_
            exact step _ _ hla hlb h4 _ (Drops.to [0, 1, 15, 16, 5, 33, 34] rfl)
      · rw [decide_eq_false hx0, Bool.false_and] at hla
        by_cases hy0 : y.same > 0
        · rw [decide_eq_true hy0, Bool.true_and] at hlb
          refine goT ?_
          refine W_draw hX (n := 39) (follows_mixed Tryz.checked) (ws := [[], [], [(0, 37), (1, 38)], [(2, 39)], [(3, 40)], [(4, 41)], [(5, 42)], [(6, 43)], [(6, 43)], [(6, 43), (7, 44), (8, 45)], [(6, 43), (9, 46)], [(6, 43), (10, 47)], [(6, 43)], [(6, 43)], [(6, 43), (12, 49), (13, 50)], [(6, 43), (14, 51)], [(6, 43), (15, 52)], [(6, 43), (11, 48), (16, 53)], [(6, 43), (17, 54)], [], [], [(19, 56), (20, 57)], [(21, 58)], [(22, 59)], [(23, 60)], [(6, 43), (24, 61)], [(25, 62)], [(25, 62)], [(25, 62), (26, 63), (27, 64)], [(25, 62), (28, 65)], [(25, 62), (29, 66)], [(25, 62)], [(25, 62)], [(25, 62), (31, 68), (32, 69)], [(25, 62), (33, 70)], [(25, 62), (34, 71)], [(25, 62), (30, 67), (35, 72)], [(25, 62), (36, 73)], [(18, 55), (37, 74)]]) (ds := [37, 38, 39, 40, 41, 42, 43, 44, 45, 46, 47, 48, 49, 50, 51, 52, 53, 54, 55, 56, 57, 58, 59, 60, 61, 62, 63, 64, 65, 66, 67, 68, 69, 70, 71, 72, 73, 74, 75]) (bi := []) (wa := [(0, 37), (1, 38), (2, 39), (3, 40), (4, 41), (5, 42), (6, 43), (7, 44), (8, 45), (9, 46), (10, 47), (11, 48), (12, 49), (13, 50), (14, 51), (15, 52), (16, 53), (17, 54), (18, 55), (19, 56), (20, 57), (21, 58), (22, 59), (23, 60), (24, 61), (25, 62), (26, 63), (27, 64), (28, 65), (29, 66), (30, 67), (31, 68), (32, 69), (33, 70), (34, 71), (35, 72), (36, 73), (37, 74), (38, 75)]) ⟨by kernel_rfl, by kernel_rfl, by kernel_rfl, by kernel_rfl, by decide, by kernel_rfl, by kernel_rfl, rfl, by decide, rfl⟩ ?_
          refine goT ?_
          refine condB_intro (fun h4 => ?_) (fun h4 => ?_)
          · rw [decide_eq_false (stop _ _ hla hlb h4)]
            refine goT ?_
            rfl
          · refine goT ?_
            exact step _ _ hla hlb h4 _ (Drops.to [0, 1, 15, 16, 5, 33, 34] rfl)
        · rw [decide_eq_false hy0, Bool.false_and] at hlb
          refine goT ?_
          refine W_draw hX (n := 39) (follows_mixed Tryz.checked) (ws := [[], [], [(0, 37), (1, 38)], [(2, 39)], [(3, 40)], [(4, 41)], [(5, 42)], [(6, 43)], [(6, 43)], [(6, 43), (7, 44), (8, 45)], [(6, 43), (9, 46)], [(6, 43), (10, 47)], [(6, 43)], [(6, 43)], [(6, 43), (12, 49), (13, 50)], [(6, 43), (14, 51)], [(6, 43), (15, 52)], [(6, 43), (11, 48), (16, 53)], [(6, 43), (17, 54)], [], [], [(19, 56), (20, 57)], [(21, 58)], [(22, 59)], [(23, 60)], [(6, 43), (24, 61)], [(25, 62)], [(25, 62)], [(25, 62), (26, 63), (27, 64)], [(25, 62), (28, 65)], [(25, 62), (29, 66)], [(25, 62)], [(25, 62)], [(25, 62), (31, 68), (32, 69)], [(25, 62), (33, 70)], [(25, 62), (34, 71)], [(25, 62), (30, 67), (35, 72)], [(25, 62), (36, 73)], [(18, 55), (37, 74)]]) (ds := [37, 38, 39, 40, 41, 42, 43, 44, 45, 46, 47, 48, 49, 50, 51, 52, 53, 54, 55, 56, 57, 58, 59, 60, 61, 62, 63, 64, 65, 66, 67, 68, 69, 70, 71, 72, 73, 74, 75]) (bi := []) (wa := [(0, 37), (1, 38), (2, 39), (3, 40), (4, 41), (5, 42), (6, 43), (7, 44), (8, 45), (9, 46), (10, 47), (11, 48), (12, 49), (13, 50), (14, 51), (15, 52), (16, 53), (17, 54), (18, 55), (19, 56), (20, 57), (21, 58), (22, 59), (23, 60), (24, 61), (25, 62), (26, 63), (27, 64), (28, 65), (29, 66), (30, 67), (31, 68), (32, 69), (33, 70), (34, 71), (35, 72), (36, 73), (37, 74), (38, 75)]) ⟨by kernel_rfl, by kernel_rfl, by kernel_rfl, by kernel_rfl, by decide, by kernel_rfl, by kernel_rfl, rfl, by decide, rfl⟩ ?_
          refine goT ?_
          exact step _ _ hla hlb rfl _ (Drops.to [0, 1, 15, 16, 5, 33, 34] rfl)
    · have e3 : ¬ (k : Int) < (i : Int) := of_decide_eq_false h3
      obtain rfl : k = i := by omega
      refine goT ?_
      refine ⟨k + 1, ⟨by omega, fun j hj => ?_⟩, by omega, Drops.to [0, 1, 15, 16] rfl⟩
      by_cases e : j = k
      · subst e
        exact ⟨by rw [hxy, hs], hK⟩
      · exact hI j (by omega)
  · have e1 : ¬ (i : Int) < (a.length : Int) := of_decide_eq_false h1
    obtain rfl : i = a.length := by omega
    have e2 : AlikeP a b := ⟨e0, hI⟩
    rw [decide_eq_true e2]
    refine goT ?_
    rfl
end Go.Proofs.YtdhikkdkjmeiiaaGreatDoor.Abs
