/- slices.SortStableFunc of few nodes, walked; order.Sort. -/
import Derived.Test.YtgjldbcpohkmkaaDoorRins
import Derived.Test.YtgjldbcpohkmkaaDoorRcopy
import Derived.Test.YtgjldbcpohkmkaaDoorDr10
import Derived.Test.YtgjldbcpohkmkaaDoorDr13
namespace Go.Proofs.YtgjldbcpohkmkaaDoor.Abs
open Go.RowKit Go.MapKept
set_option linter.unusedVariables false
set_option linter.unusedSimpArgs false
set_option maxRecDepth 100000
set_option maxHeartbeats 4000000
theorem order1_ac (a b : NodeT) (ha : pathChk a.path = 0) (hb : pathChk b.path = 0) : AC CX 37 [.agg (encNode a), .agg (encNode b)] (.v (.int .i64 (lessF a.path b.path))) := by
  have h1 := pathChk_size ha
  have h2 := pathChk_size hb
  have hc := compare_ac a.path b.path (by omega) (by omega)
  rw [compare_less ha hb] at hc
  refine AC_walk ⟨TB, 10, 0, [], []⟩ (fn := Tryd.f37) TB_ok Tryd.func37 rfl rfl rfl rfl rfl (fun _ => rfl) (fun _ => rfl) ?_; intro E hna hX
  refine goT ?_
  refine ⟨_, hc, by kernel_rfl, fun _ => rfl, ?_⟩
  refine goT ?_
  rfl
theorem mid_get {α : Type} (A : List α) (x : α) (B : List α) : (A ++ x :: B)[A.length]? = some x := by simp
theorem mid_set {α : Type} (A : List α) (x y : α) (B : List α) : (A ++ x :: B).set A.length y = A ++ y :: B := by simp
theorem insert_acs (t l : List NodeT) (ht : t.Pairwise ltN) (hg : ∀ x ∈ t, pathChk x.path = 0) (hp : l.Perm t) (hl : l.length ≤ 1000) : ACS CX 75 [.own 0 12 0 l.length, .v (.int .i64 0), .v (.int .i64 l.length), .fn (.func 37) []] [.row 40 12 (l.map encNode)] (.tup []) [.row 40 12 (t.map encNode)] := by
  have hcell : ∀ (t : List NodeT), ∀ l ∈ t.map encNode, l.length = 12 := fun t l hl => by obtain ⟨x, _, rfl⟩ := List.mem_map.1 hl; rfl
  refine ACS_walk ⟨TB, 53, 1, [], []⟩ (fn := Tryd.f75) TB_ok Tryd.func75 rfl rfl rfl rfl rfl rfl ?_; intro E hX
  refine goT ?_
  refine W_loop (γ := Nat × List NodeT) (fun g => 1 ≤ g.1 ∧ (g.1 ≤ l.length ∨ g.1 = 1) ∧ g.2.Perm t ∧ (g.2.take g.1).Pairwise ltN) (fun g => l.length - g.1) (fun g => ⟨[(0, .own 0 12 0 l.length), (1, .v (.int .i64 0)), (2, .v (.int .i64 l.length)), (3, .fn (.func 37) []), (8, .v (.int .i64 g.1))], [.row 40 12 (g.2.map encNode)]⟩) (1, l) ⟨Nat.le_refl _, .inr rfl, hp, by cases l with | nil => exact List.Pairwise.nil | cons x l => exact List.pairwise_singleton ..⟩ (Drops.to [0, 1, 2, 3, 8] rfl) ?_
  rintro ⟨i, xs⟩ ⟨hi, hil, hxp, hxs⟩
  dsimp only at hi hil hxp hxs ⊢
  have hxl : xs.length = l.length := hxp.length_eq.trans hp.length_eq.symm
  refine goT ?_
  refine condB_intro (fun h1 => ?_) (fun h1 => ?_)
  · have e1 : (i : Int) < (l.length : Int) := of_decide_eq_true h1
    obtain ⟨x, hx⟩ := get_lt (l := xs) (k := i) (by omega)
    have hdec : xs = xs.take i ++ x :: ([] ++ xs.drop (i + 1)) := by
      rw [List.nil_append, ← drop_at hx, List.take_append_drop]
    have hA : (xs.take i).length = i := by rw [List.length_take]; omega
    generalize xs.take i = A0 at hdec hA hxs
    generalize xs.drop (i + 1) = C at hdec
    have hI0 : InsOk t A0 x [] C := ⟨by rw [← hdec]; exact hxp, by rw [List.append_nil]; exact hxs, fun b hb => by cases hb⟩
    subst hdec
    refine goT ?_
    refine W_loop (γ := Nat × List NodeT × List NodeT) (fun g => g.1 = g.2.1.length ∧ g.2.1.length + g.2.2.length = i ∧ InsOk t g.2.1 x g.2.2 C) (fun g => g.1) (fun g => ⟨[(0, .own 0 12 0 l.length), (1, .v (.int .i64 0)), (2, .v (.int .i64 l.length)), (3, .fn (.func 37) []), (8, .v (.int .i64 i)), (9, .v (.int .i64 g.1))], [.row 40 12 ((g.2.1 ++ x :: (g.2.2 ++ C)).map encNode)]⟩) (i, A0, []) ⟨hA.symm, by simpa using hA, hI0⟩ (Drops.to [0, 1, 2, 3, 8, 9] rfl) ?_
    rintro ⟨j, A, B⟩ ⟨hj, hAB, hI⟩
    dsimp only at hj hAB hI ⊢
    have hperm := hI.perm
    have hlen : (A ++ x :: (B ++ C)).length = l.length := hperm.length_eq.trans hp.length_eq.symm
    have hxg : pathChk x.path = 0 := hg x (hperm.subset (by simp))
    rcases List.eq_nil_or_concat A with rfl | ⟨A', y, rfl⟩
    · have hj : j = 0 := hj
      subst hj
      have hz : ¬ ((0 : Nat) : Int) > 0 := by decide
      have hpw := hI.top
      refine goT ?_
      refine W_draw hX (n := 17) (follows_mixed Tryd.checked) (ws := [[], [], [(0, 18), (1, 19)], [(2, 20)], [(3, 21)], [(3, 21)], [(3, 21)], [(3, 21), (5, 23), (6, 24)], [(3, 21), (7, 25)], [(3, 21)], [(3, 21)], [(3, 21), (10, 28)], [(3, 21), (9, 27), (11, 29)], [(3, 21), (12, 30)], [(3, 21), (4, 22), (8, 26), (13, 31)], [(3, 21), (14, 32)], [(3, 21), (15, 33)]]) (ds := [18, 19, 20, 21, 22, 23, 24, 25, 26, 27, 28, 29, 30, 31, 32, 33, 34]) (bi := []) (wa := [(0, 18), (1, 19), (2, 20), (3, 21), (4, 22), (5, 23), (6, 24), (7, 25), (8, 26), (9, 27), (10, 28), (11, 29), (12, 30), (13, 31), (14, 32), (15, 33), (16, 34)]) ⟨by kernel_rfl, by kernel_rfl, by kernel_rfl, by kernel_rfl, by decide, by kernel_rfl, by kernel_rfl, rfl, by decide, rfl⟩ ?_
      refine goT ?_
      exact LoopEnd_fin (i + 1, [] ++ x :: (B ++ C)) [0, 1, 2, 3, 8] 1 hX ⟨by show 1 ≤ i + 1; omega, .inl (by show i + 1 ≤ _; omega), hperm, by show (([] ++ x :: (B ++ C)).take (i + 1)).Pairwise ltN; rw [show [] ++ x :: (B ++ C) = (x :: B) ++ C from rfl, show i + 1 = (x :: B).length by rw [List.length_cons]; simp at hAB; omega, List.take_left]; exact hpw⟩ (by show l.length - (i + 1) < l.length - i; omega) rfl rfl rfl rfl ⟨cN _, trivial⟩
    · rw [List.concat_eq_append] at *
      rw [List.length_append, List.length_singleton] at hj
      subst hj
      have hyg : pathChk y.path = 0 := hg y (hperm.subset (by simp))
      have hcm := order1_ac x y hxg hyg
      have e2 : ((A' ++ [y]) ++ x :: (B ++ C)) = A' ++ y :: x :: (B ++ C) := by simp
      have gy : ((A' ++ [y]) ++ x :: (B ++ C))[A'.length]? = some y := by rw [e2]; exact mid_get _ _ _
      have gx : ((A' ++ [y]) ++ x :: (B ++ C))[A'.length + 1]? = some x := by
        have := mid_get (A' ++ [y]) x (B ++ C)
        rwa [List.length_append, List.length_singleton] at this
      have hAl : (A' ++ [y]).length = A'.length + 1 := by simp
      have hs1 : ((A' ++ [y]) ++ x :: (B ++ C)).set (A'.length + 1) y = (A' ++ [y]) ++ y :: (B ++ C) := by
        have := mid_set (A' ++ [y]) x y (B ++ C)
        rwa [hAl] at this
      have e5 : ((A' ++ [y]) ++ y :: (B ++ C)) = A' ++ y :: y :: (B ++ C) := by simp
      have gy2 : ((A' ++ [y]) ++ y :: (B ++ C))[A'.length]? = some y := by rw [e5]; exact mid_get _ _ _
      have hs2 : ((A' ++ [y]) ++ y :: (B ++ C)).set A'.length x = A' ++ x :: (y :: B ++ C) := by rw [e5]; exact mid_set _ _ _ _
      have hm1 : (((A'.length + 1 : Nat) : Int) - 1) = (A'.length : Int) := by omega
      refine goT ?_
      refine W_draw hX (n := 17) (follows_mixed Tryd.checked) (ws := [[], [], [(0, 18), (1, 19)], [(2, 20)], [(3, 21)], [(3, 21)], [(3, 21)], [(3, 21), (5, 23), (6, 24)], [(3, 21), (7, 25)], [(3, 21)], [(3, 21)], [(3, 21), (10, 28)], [(3, 21), (9, 27), (11, 29)], [(3, 21), (12, 30)], [(3, 21), (4, 22), (8, 26), (13, 31)], [(3, 21), (14, 32)], [(3, 21), (15, 33)]]) (ds := [18, 19, 20, 21, 22, 23, 24, 25, 26, 27, 28, 29, 30, 31, 32, 33, 34]) (bi := []) (wa := [(0, 18), (1, 19), (2, 20), (3, 21), (4, 22), (5, 23), (6, 24), (7, 25), (8, 26), (9, 27), (10, 28), (11, 29), (12, 30), (13, 31), (14, 32), (15, 33), (16, 34)]) ⟨by kernel_rfl, by kernel_rfl, by kernel_rfl, by kernel_rfl, by decide, by kernel_rfl, by kernel_rfl, rfl, by decide, rfl⟩ ?_
      refine goT ?_
      refine ⟨A'.length + 1, 0, encNode x, by omega, get_mapN gx, hcell _, ?_⟩
      refine goT ?_
      refine ⟨A'.length, by omega, by omega, ?_⟩
      refine goT ?_
      refine ⟨A'.length, 0, encNode y, by omega, get_mapN gy, hcell _, ?_⟩
      refine goT ?_
      refine ⟨_, hcm, by kernel_rfl, fun _ => rfl, ?_⟩
      refine goT ?_
      refine condB_intro (fun h3 => ?_) (fun h3 => ?_)
      · have e3 : ltN x y := (of_decide_eq_true h3 : lessF x.path y.path < 0)
        have hI2 := hI.swap e3
        refine goT ?_
        refine W_drawR hX (n := 16) (follows_mixed Tryd.checked) 16 [.own 0 12 0 l.length, .v (.int .i64 ((A'.length + 1 : Nat) : Int)), .own 0 12 0 l.length, .v (.int .i64 ((A'.length + 1 : Nat) : Int)), .v (.int .i64 (((A'.length + 1 : Nat) : Int) - 1)), .own 0 12 0 l.length, .v (.int .i64 ((A'.length + 1 : Nat) : Int)), .v (.int .i64 (((A'.length + 1 : Nat) : Int) - 1)), .ptr 0 ((0 + A'.length) * 12), .agg (encNode y), .own 0 12 0 l.length, .v (.int .i64 ((A'.length + 1 : Nat) : Int)), .ptr 0 ((0 + (A'.length + 1)) * 12), .agg (encNode x), .ptr 0 ((0 + (A'.length + 1)) * 12), .junk] [[.row 40 12 (((A' ++ [y]) ++ x :: (B ++ C)).map encNode)], [.row 40 12 (((A' ++ [y]) ++ y :: (B ++ C)).map encNode)]] [15] [[0], [0], [0, 1], [0, 1], [0, 1], [0], [0], [0], [0], [0], [0], [0], [0], [0], [0], []] (ws := [[], [], [], [], [(3, 40)], [], [], [(6, 43)], [(5, 42), (7, 44)], [(8, 45)], [], [], [(10, 47), (11, 48)], [(12, 49)], [(0, 37), (1, 38), (5, 42), (6, 43), (7, 44), (8, 45), (9, 46), (13, 50)], [(0, 37), (1, 38), (5, 42), (6, 43), (7, 44), (8, 45), (9, 46), (13, 50), (14, 51)]]) (ds := [37, 38, 39, 40, 41, 42, 43, 44, 45, 46, 47, 48, 49, 50, 51]) (wa := [(0, 37), (1, 38), (2, 39), (3, 40), (4, 41), (5, 42), (6, 43), (7, 44), (8, 45), (9, 46), (10, 47), (11, 48), (12, 49), (13, 50), (14, 51)]) ⟨by kernel_rfl, by kernel_rfl, by kernel_rfl, by kernel_rfl, by decide, by kernel_rfl, by kernel_rfl, by kernel_rfl, by decide, by kernel_rfl, by kernel_rfl⟩ rfl rfl rfl rfl rfl ?_ ?_
        · exact ⟨⟨rfl, True.intro⟩, ⟨rfl, True.intro⟩, ⟨rfl, rfl, True.intro⟩, ⟨rfl, rfl, True.intro⟩, ⟨⟨by omega, rfl⟩, ⟨by omega, rfl⟩, True.intro⟩, ⟨rfl, True.intro⟩, ⟨rfl, True.intro⟩, ⟨⟨by omega, rfl⟩, True.intro⟩, ⟨⟨A'.length, by omega, by omega, rfl⟩, True.intro⟩, ⟨⟨A'.length, 0, encNode y, by omega, get_mapN gy, hcell _, rfl⟩, True.intro⟩, ⟨rfl, True.intro⟩, ⟨rfl, True.intro⟩, ⟨⟨A'.length + 1, rfl, by omega, rfl⟩, True.intro⟩, ⟨⟨A'.length + 1, 0, encNode x, by omega, get_mapN gx, hcell _, rfl⟩, True.intro⟩, ⟨⟨A'.length + 1, rfl, by omega, rfl⟩, True.intro⟩, ⟨A'.length + 1, 0, encNode x, ((A' ++ [y]) ++ y :: (B ++ C)).map encNode, by omega, get_mapN gx, by decide, by rw [← hs1, List.map_set]; rfl, rfl⟩, True.intro⟩
        refine goT ?_
        refine ⟨A'.length, by omega, by omega, ?_⟩
        refine goT ?_
        refine ⟨A'.length, 0, encNode y, (A' ++ x :: (y :: B ++ C)).map encNode, by omega, get_mapN gy2, by decide, by rw [← hs2, List.map_set]; rfl, ?_⟩
        refine goT ?_
        rw [hm1]
        exact LoopEnd_fin (A'.length, A', y :: B) [0, 1, 2, 3, 8, 9] 1 hX ⟨rfl, by show A'.length + (B.length + 1) = i; omega, hI2⟩ (by show A'.length < A'.length + 1; omega) rfl rfl rfl rfl ⟨cN _, trivial⟩
      · have e3 : ¬ ltN x y := (of_decide_eq_false h3 : ¬ lessF x.path y.path < 0)
        have hpw := hI.stay (ltN_or ht hI e3)
        refine goT ?_
        exact LoopEnd_fin (i + 1, (A' ++ [y]) ++ x :: (B ++ C)) [0, 1, 2, 3, 8] 1 hX ⟨by show 1 ≤ i + 1; omega, .inl (by show i + 1 ≤ _; omega), hperm, by show (((A' ++ [y]) ++ x :: (B ++ C)).take (i + 1)).Pairwise ltN; rw [show (A' ++ [y]) ++ x :: (B ++ C) = ((A' ++ [y]) ++ x :: B) ++ C by simp, show i + 1 = ((A' ++ [y]) ++ x :: B).length by rw [List.length_append, List.length_cons]; omega, List.take_left]; exact hpw⟩ (by show l.length - (i + 1) < l.length - i; omega) rfl rfl rfl rfl ⟨cN _, trivial⟩
  · have e1 : ¬ (i : Int) < (l.length : Int) := of_decide_eq_false h1
    have hall : xs.take i = xs := List.take_of_length_le (by omega)
    rw [hall] at hxs
    have e4 := sorted_unique xs t hxp hxs ht
    subst e4
    refine goT ?_
    exact ⟨[], rfl⟩
/-- Nothing to sort. -/
theorem insert_nop (xs : List NodeT) (hl : xs.length ≤ 1000) : ACS CX 75 [.own 0 12 0 xs.length, .v (.int .i64 xs.length), .v (.int .i64 xs.length), .fn (.func 37) []] [.row 40 12 (xs.map encNode)] (.tup []) [.row 40 12 (xs.map encNode)] := by
  refine ACS_walk ⟨TB, 53, 1, [], []⟩ (fn := Tryd.f75) TB_ok Tryd.func75 rfl rfl rfl rfl rfl rfl ?_; intro E hX
  refine goT ?_
  refine W_loop (fun _ : Unit => True) (fun _ => 0) (fun _ => ⟨[(2, .v (.int .i64 xs.length)), (8, .v (.int .i64 (xs.length + 1)))], [.row 40 12 (xs.map encNode)]⟩) () trivial (Drops.to [2, 8] rfl) ?_
  intro _ _
  refine goT ?_
  exact ⟨[], rfl⟩
/-- slices.stableCmpFunc of at most 20 nodes. -/
theorem stable_acs (t l : List NodeT) (ht : t.Pairwise ltN) (hg : ∀ x ∈ t, pathChk x.path = 0) (hp : l.Perm t) (hl : l.length ≤ 20) (h0 : l ≠ []) : ACS CX 64 [.own 0 12 0 l.length, .v (.int .i64 l.length), .fn (.func 37) []] [.row 40 12 (l.map encNode)] (.tup []) [.row 40 12 (t.map encNode)] := by
  have hins := insert_acs t l ht hg hp (by omega)
  have htl : t.length = l.length := hp.length_eq.symm
  have hnop := insert_nop t (by omega)
  rw [htl] at hnop
  have hl0 : l.map encNode ≠ [] := by intro e; exact h0 (List.map_eq_nil_iff.1 e)
  have ht0 : t.map encNode ≠ [] := by intro e; have := List.map_eq_nil_iff.1 e; rw [this] at htl; exact h0 (List.eq_nil_of_length_eq_zero htl.symm)
  have one : ∀ (P : BoxC → Prop) (b : BoxC), P b → ∀ c ∈ [b], P c := fun P b h c hc => by rw [List.mem_singleton] at hc; subst hc; exact h
  generalize l.length = n at hins hnop hl
  by_cases h20 : n = 20
  · subst h20
    refine ACS_walk ⟨TB, 63, 1, [], []⟩ (fn := Tryd.f64) TB_ok Tryd.func64 rfl rfl rfl rfl rfl rfl ?_; intro E hX
    refine goT ?_
    refine W_loop (γ := Bool) (fun _ => True) (fun g => if g then 0 else 1) (fun g => ⟨[(0, .own 0 12 0 20), (1, .v (.int .i64 20)), (2, .fn (.func 37) []), (6, .v (.int .i64 20)), (7, .v (.int .i64 (if g then 20 else 0))), (8, .v (.int .i64 (if g then 40 else 20)))], [.row 40 12 ((if g then t else l).map encNode)]⟩) false trivial (Drops.to [0, 1, 2, 6, 7, 8] rfl) ?_
    intro g _
    cases g
    · repeat (first | ((with_reducible show W _ _ _ _ _ _); first | refine W_seq ?_ | refine W_block ?_ | refine W_regionB hX 3 rfl ?_ | refine W_cond ?_ | refine W_skip ?_ | refine W_exit ?_ | refine W_ret ?_) | ((fail_if_success (with_reducible show W _ _ _ _ _ _)); show W _ _ _ _ _ _) | refine andA ?_ | refine condT ?_ | refine condF ?_ | refine exB ?_ | refine exL ?_ | refine Exists.intro _ (And.intro rfl ?_) | refine Exists.intro _ (And.intro (get_mapN (by assumption)) ?_) | ((fail_if_success (with_reducible show LoopEnd _ _ _ _ _ _ _)); show LoopEnd _ _ _ _ _ _ _) | ((fail_if_success (with_reducible show JoinEnd _ _ _ _ _)); show JoinEnd _ _ _ _ _) | ((fail_if_success (with_reducible show JoinG _ _ _ _ _)); show JoinG _ _ _ _ _))
      refine W_regionS hX 4 ?_
      refine goT ?_
      refine ⟨[0], _, _, _, _, ⟨hins, by kernel_rfl, rfl, rfl, rfl, by decide, rfl, Nat.le_refl _, rfl, one _ _ (cN l), one _ _ (cN t), rfl, one _ _ hl0⟩, ?_⟩
      refine goT ?_
      exact LoopEnd_fin true [0, 1, 2, 6, 7, 8] 1 hX trivial (by decide) rfl rfl rfl rfl ⟨cN _, trivial⟩
    · repeat (first | ((with_reducible show W _ _ _ _ _ _); first | refine W_seq ?_ | refine W_block ?_ | refine W_regionB hX 6 rfl ?_ | refine W_cond ?_ | refine W_skip ?_ | refine W_exit ?_ | refine W_ret ?_) | ((fail_if_success (with_reducible show W _ _ _ _ _ _)); show W _ _ _ _ _ _) | refine andA ?_ | refine condT ?_ | refine condF ?_ | refine exB ?_ | refine exL ?_ | refine Exists.intro _ (And.intro rfl ?_) | refine Exists.intro _ (And.intro (get_mapN (by assumption)) ?_) | ((fail_if_success (with_reducible show LoopEnd _ _ _ _ _ _ _)); show LoopEnd _ _ _ _ _ _ _) | ((fail_if_success (with_reducible show JoinEnd _ _ _ _ _)); show JoinEnd _ _ _ _ _) | ((fail_if_success (with_reducible show JoinG _ _ _ _ _)); show JoinG _ _ _ _ _))
      refine W_regionS hX 4 ?_
      refine goT ?_
      refine ⟨[0], _, _, _, _, ⟨hnop, by kernel_rfl, rfl, rfl, rfl, by decide, rfl, Nat.le_refl _, rfl, one _ _ (cN t), one _ _ (cN t), rfl, one _ _ ht0⟩, ?_⟩
      refine goT ?_
      refine W_loop (fun _ : Unit => True) (fun _ => 0) (fun _ => ⟨[(1, .v (.int .i64 20)), (6, .v (.int .i64 20))], [.row 40 12 (t.map encNode)]⟩) () trivial (Drops.to [1, 6] rfl) ?_
      intro _ _
      refine goT ?_
      exact ⟨[], rfl⟩
  · refine ACS_walk ⟨TB, 63, 1, [], []⟩ (fn := Tryd.f64) TB_ok Tryd.func64 rfl rfl rfl rfl rfl rfl ?_; intro E hX
    refine goT ?_
    refine W_loop (fun _ : Unit => True) (fun _ => 0) (fun _ => ⟨[(0, .own 0 12 0 n), (1, .v (.int .i64 n)), (2, .fn (.func 37) []), (6, .v (.int .i64 20)), (7, .v (.int .i64 0)), (8, .v (.int .i64 20))], [.row 40 12 (l.map encNode)]⟩) () trivial (Drops.to [0, 1, 2, 6, 7, 8] rfl) ?_
    intro _ _
    repeat (first | ((with_reducible show W _ _ _ _ _ _); first | refine W_seq ?_ | refine W_block ?_ | refine W_regionB hX 6 rfl ?_ | refine W_cond ?_ | refine W_skip ?_ | refine W_exit ?_ | refine W_ret ?_) | ((fail_if_success (with_reducible show W _ _ _ _ _ _)); show W _ _ _ _ _ _) | refine andA ?_ | refine condT ?_ | refine condF ?_ | refine exB ?_ | refine exL ?_ | refine Exists.intro _ (And.intro rfl ?_) | refine Exists.intro _ (And.intro (get_mapN (by assumption)) ?_) | ((fail_if_success (with_reducible show LoopEnd _ _ _ _ _ _ _)); show LoopEnd _ _ _ _ _ _ _) | ((fail_if_success (with_reducible show JoinEnd _ _ _ _ _)); show JoinEnd _ _ _ _ _) | ((fail_if_success (with_reducible show JoinG _ _ _ _ _)); show JoinG _ _ _ _ _))
    refine W_regionS hX 4 ?_
    refine goT ?_
    refine ⟨[0], _, _, _, _, ⟨hins, by kernel_rfl, rfl, rfl, rfl, by decide, rfl, Nat.le_refl _, rfl, one _ _ (cN l), one _ _ (cN t), rfl, one _ _ hl0⟩, ?_⟩
    refine goT ?_
    refine W_loop (fun _ : Unit => True) (fun _ => 0) (fun _ => ⟨[(1, .v (.int .i64 n)), (6, .v (.int .i64 20))], [.row 40 12 (t.map encNode)]⟩) () trivial (Drops.to [1, 6] rfl) ?_
    intro _ _
    refine goT ?_
    exact ⟨[], rfl⟩
theorem sorts_acs (t l : List NodeT) (ht : t.Pairwise ltN) (hg : ∀ x ∈ t, pathChk x.path = 0) (hp : l.Perm t) (hl : l.length ≤ 20) (h0 : l ≠ []) : ACS CX 36 [.own 0 12 0 l.length, .fn (.func 37) []] [.row 40 12 (l.map encNode)] (.tup []) [.row 40 12 (t.map encNode)] := by
  have hst := stable_acs t l ht hg hp hl h0
  have hl0 : l.map encNode ≠ [] := by intro e; exact h0 (List.map_eq_nil_iff.1 e)
  have one : ∀ (P : BoxC → Prop) (b : BoxC), P b → ∀ c ∈ [b], P c := fun P b h c hc => by rw [List.mem_singleton] at hc; subst hc; exact h
  generalize l.length = n at hst hl
  refine ACS_walk ⟨TB, 9, 1, [], []⟩ (fn := Tryd.f36) TB_ok Tryd.func36 rfl rfl rfl rfl rfl rfl ?_; intro E hX
  repeat (first | ((with_reducible show W _ _ _ _ _ _); first | refine W_seq ?_ | refine W_block ?_ | refine W_regionB hX 0 rfl ?_ | refine W_cond ?_ | refine W_skip ?_ | refine W_exit ?_ | refine W_ret ?_) | ((fail_if_success (with_reducible show W _ _ _ _ _ _)); show W _ _ _ _ _ _) | refine andA ?_ | refine condT ?_ | refine condF ?_ | refine exB ?_ | refine exL ?_ | refine Exists.intro _ (And.intro rfl ?_) | refine Exists.intro _ (And.intro (get_mapN (by assumption)) ?_) | ((fail_if_success (with_reducible show LoopEnd _ _ _ _ _ _ _)); show LoopEnd _ _ _ _ _ _ _) | ((fail_if_success (with_reducible show JoinEnd _ _ _ _ _)); show JoinEnd _ _ _ _ _) | ((fail_if_success (with_reducible show JoinG _ _ _ _ _)); show JoinG _ _ _ _ _))
  refine W_regionS hX 4 ?_
  refine goT ?_
  refine ⟨[0], _, _, _, _, ⟨hst, by kernel_rfl, rfl, rfl, rfl, by decide, rfl, Nat.le_refl _, rfl, one _ _ (cN l), one _ _ (cN t), rfl, one _ _ hl0⟩, ?_⟩
  refine goT ?_
  exact ⟨[], rfl⟩
/-! ### No node at all -/
theorem insert0_ac : AC CX 75 [.row 12 [], .v (.int .i64 0), .v (.int .i64 0), .fn (.func 37) []] (.tup []) := by
  refine AC_walk ⟨TB, 53, 0, [], []⟩ (fn := Tryd.f75) TB_ok Tryd.func75 rfl rfl rfl rfl rfl (fun _ => rfl) (fun _ => rfl) ?_; intro E hna hX
  refine goT ?_
  refine W_loop (fun _ : Unit => True) (fun _ => 0) (fun _ => ⟨[(2, .v (.int .i64 0)), (8, .v (.int .i64 (0 + 1)))], []⟩) () trivial (Drops.to [2, 8] rfl) ?_
  intro _ _
  refine goT ?_
  rfl
theorem stable0_ac : AC CX 64 [.row 12 [], .v (.int .i64 0), .fn (.func 37) []] (.tup []) := by
  have h := insert0_ac
  refine AC_walk ⟨TB, 63, 0, [], []⟩ (fn := Tryd.f64) TB_ok Tryd.func64 rfl rfl rfl rfl rfl (fun _ => rfl) (fun _ => rfl) ?_; intro E hna hX
  refine goT ?_
  refine W_loop (fun _ : Unit => True) (fun _ => 0) (fun _ => ⟨[(0, .row 12 []), (1, .v (.int .i64 0)), (2, .fn (.func 37) []), (6, .v (.int .i64 20)), (7, .v (.int .i64 0)), (8, .v (.int .i64 20))], []⟩) () trivial (Drops.to [0, 1, 2, 6, 7, 8] rfl) ?_
  intro _ _
  refine goT ?_
  refine ⟨_, h, by kernel_rfl, fun _ => rfl, ?_⟩
  refine goT ?_
  refine W_loop (fun _ : Unit => True) (fun _ => 0) (fun _ => ⟨[(1, .v (.int .i64 0)), (6, .v (.int .i64 20))], []⟩) () trivial (Drops.to [1, 6] rfl) ?_
  intro _ _
  refine goT ?_
  rfl
theorem sorts0_ac : AC CX 36 [.row 12 [], .fn (.func 37) []] (.tup []) := by
  have h := stable0_ac
  refine AC_walk ⟨TB, 9, 0, [], []⟩ (fn := Tryd.f36) TB_ok Tryd.func36 rfl rfl rfl rfl rfl (fun _ => rfl) (fun _ => rfl) ?_; intro E hna hX
  refine goT ?_
  refine ⟨_, h, by kernel_rfl, fun _ => rfl, ?_⟩
  refine goT ?_
  rfl
/-- order.Sort: the nodes in their order. -/
theorem osort_ac (t l : List NodeT) (ht : t.Pairwise ltN) (hg : ∀ x ∈ t, pathChk x.path = 0) (hd : ∀ x ∈ t, x.data.size ≤ 1000000) (hp : l.Perm t) (hl : l.length ≤ 20) : AC CX 15 [.row 12 (l.map encNode)] (.row 12 (t.map encNode)) := by
  have hcp := copy_ac l (by omega) (fun x hx => hd x (hp.subset hx))
  have hlen := hp.length_eq
  have one : ∀ (P : BoxC → Prop) (b : BoxC), P b → ∀ c ∈ [b], P c := fun P b h c hc => by rw [List.mem_singleton] at hc; subst hc; exact h
  by_cases h0 : l = []
  · subst h0
    obtain rfl : t = [] := List.eq_nil_of_length_eq_zero hlen.symm
    have hs := sorts0_ac
    refine AC_walk ⟨TB, 9, 0, [], []⟩ (fn := Tryd.f15) TB_ok Tryd.func15 rfl rfl rfl rfl rfl (fun _ => rfl) (fun _ => rfl) ?_; intro E hna hX
    repeat (first | ((with_reducible show W _ _ _ _ _ _); first | refine W_seq ?_ | refine W_block ?_ | refine W_regionB hX 1 rfl ?_ | refine W_cond ?_ | refine W_skip ?_ | refine W_exit ?_ | refine W_ret ?_) | ((fail_if_success (with_reducible show W _ _ _ _ _ _)); show W _ _ _ _ _ _) | refine andA ?_ | refine condT ?_ | refine condF ?_ | refine exB ?_ | refine exL ?_ | refine Exists.intro _ (And.intro rfl ?_) | refine Exists.intro _ (And.intro (get_mapN (by assumption)) ?_) | ((fail_if_success (with_reducible show LoopEnd _ _ _ _ _ _ _)); show LoopEnd _ _ _ _ _ _ _) | ((fail_if_success (with_reducible show JoinEnd _ _ _ _ _)); show JoinEnd _ _ _ _ _) | ((fail_if_success (with_reducible show JoinG _ _ _ _ _)); show JoinG _ _ _ _ _))
    refine W_regionN hX 1 ?_
    refine goT ?_
    refine ⟨[], _, _, _, _, ⟨hcp, by kernel_rfl, rfl, rfl, rfl, by decide, rfl, Nat.zero_le _, rfl, balln, ballc (cN _) balln, rfl, fun j hj => (by cases hj), fun j hj => (by cases hj)⟩, ?_⟩
    refine goT ?_
    refine .inl ⟨_, hs, by kernel_rfl, ⟨⟨⟨rfl, cN []⟩, ⟨True.intro, True.intro⟩⟩, True.intro⟩, ?_⟩
    repeat (first | ((with_reducible show W _ _ _ _ _ _); first | refine W_seq ?_ | refine W_block ?_ | refine W_region hX ?_ | refine W_cond ?_ | refine W_skip ?_ | refine W_exit ?_) | ((fail_if_success (with_reducible show W _ _ _ _ _ _)); show W _ _ _ _ _ _) | refine andA ?_ | refine condT ?_ | refine condF ?_ | refine exB ?_ | refine exL ?_ | refine Exists.intro _ (And.intro rfl ?_) | refine Exists.intro _ (And.intro (get_mapN (by assumption)) ?_) | ((fail_if_success (with_reducible show LoopEnd _ _ _ _ _ _ _)); show LoopEnd _ _ _ _ _ _ _) | ((fail_if_success (with_reducible show JoinEnd _ _ _ _ _)); show JoinEnd _ _ _ _ _) | ((fail_if_success (with_reducible show JoinG _ _ _ _ _)); show JoinG _ _ _ _ _))
    refine W_freeze hna 0 [2] rfl (fun t ht => by simp at ht; subst ht; rfl) rfl (cN []) True.intro rfl ?_
    refine goT ?_
    rfl
  · have hs := sorts_acs t l ht hg hp hl h0
    have hl0 : l.map encNode ≠ [] := by intro e; exact h0 (List.map_eq_nil_iff.1 e)
    refine AC_walk ⟨TB, 9, 0, [], []⟩ (fn := Tryd.f15) TB_ok Tryd.func15 rfl rfl rfl rfl rfl (fun _ => rfl) (fun _ => rfl) ?_; intro E hna hX
    repeat (first | ((with_reducible show W _ _ _ _ _ _); first | refine W_seq ?_ | refine W_block ?_ | refine W_regionB hX 1 rfl ?_ | refine W_cond ?_ | refine W_skip ?_ | refine W_exit ?_ | refine W_ret ?_) | ((fail_if_success (with_reducible show W _ _ _ _ _ _)); show W _ _ _ _ _ _) | refine andA ?_ | refine condT ?_ | refine condF ?_ | refine exB ?_ | refine exL ?_ | refine Exists.intro _ (And.intro rfl ?_) | refine Exists.intro _ (And.intro (get_mapN (by assumption)) ?_) | ((fail_if_success (with_reducible show LoopEnd _ _ _ _ _ _ _)); show LoopEnd _ _ _ _ _ _ _) | ((fail_if_success (with_reducible show JoinEnd _ _ _ _ _)); show JoinEnd _ _ _ _ _) | ((fail_if_success (with_reducible show JoinG _ _ _ _ _)); show JoinG _ _ _ _ _))
    refine W_regionN hX 1 ?_
    refine goT ?_
    refine ⟨[], _, _, _, _, ⟨hcp, by kernel_rfl, rfl, rfl, rfl, by decide, rfl, Nat.zero_le _, rfl, balln, ballc (cN _) balln, rfl, fun j hj => (by cases hj), fun j hj => (by cases hj)⟩, ?_⟩
    repeat (first | ((with_reducible show W _ _ _ _ _ _); first | refine W_seq ?_ | refine W_block ?_ | refine W_regionB hX 2 rfl ?_ | refine W_cond ?_ | refine W_skip ?_ | refine W_exit ?_ | refine W_ret ?_) | ((fail_if_success (with_reducible show W _ _ _ _ _ _)); show W _ _ _ _ _ _) | refine andA ?_ | refine condT ?_ | refine condF ?_ | refine exB ?_ | refine exL ?_ | refine Exists.intro _ (And.intro rfl ?_) | refine Exists.intro _ (And.intro (get_mapN (by assumption)) ?_) | ((fail_if_success (with_reducible show LoopEnd _ _ _ _ _ _ _)); show LoopEnd _ _ _ _ _ _ _) | ((fail_if_success (with_reducible show JoinEnd _ _ _ _ _)); show JoinEnd _ _ _ _ _) | ((fail_if_success (with_reducible show JoinG _ _ _ _ _)); show JoinG _ _ _ _ _))
    refine W_regionS hX 1 ?_
    refine goT ?_
    refine ⟨[0], _, _, _, _, ⟨hs, by kernel_rfl, rfl, rfl, rfl, by decide, rfl, Nat.le_refl _, rfl, one _ _ (cN l), one _ _ (cN t), rfl, one _ _ hl0⟩, ?_⟩
    repeat (first | ((with_reducible show W _ _ _ _ _ _); first | refine W_seq ?_ | refine W_block ?_ | refine W_region hX ?_ | refine W_cond ?_ | refine W_skip ?_ | refine W_exit ?_) | ((fail_if_success (with_reducible show W _ _ _ _ _ _)); show W _ _ _ _ _ _) | refine andA ?_ | refine condT ?_ | refine condF ?_ | refine exB ?_ | refine exL ?_ | refine Exists.intro _ (And.intro rfl ?_) | refine Exists.intro _ (And.intro (get_mapN (by assumption)) ?_) | ((fail_if_success (with_reducible show LoopEnd _ _ _ _ _ _ _)); show LoopEnd _ _ _ _ _ _ _) | ((fail_if_success (with_reducible show JoinEnd _ _ _ _ _)); show JoinEnd _ _ _ _ _) | ((fail_if_success (with_reducible show JoinG _ _ _ _ _)); show JoinG _ _ _ _ _))
    refine W_freeze hna 0 [2] rfl (fun t ht => by simp at ht; subst ht; rfl) (by rw [List.length_map]; exact hlen.symm) (cN _) True.intro rfl ?_
    refine goT ?_
    rfl
end Go.Proofs.YtgjldbcpohkmkaaDoor.Abs
