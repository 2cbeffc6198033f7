/- How many names each node has; told anew. -/
import Derived.Test.YtaogbdfmoeolnaaDoorRcopy
import Derived.Test.YtaogbdfmoeolnaaDoorRlink
namespace Go.Proofs.YtaogbdfmoeolnaaDoor.Abs
open Go.RowKit Go.MapKept
set_option linter.unusedVariables false
set_option linter.unusedSimpArgs false
set_option maxRecDepth 100000
set_option maxHeartbeats 4000000
def countL (l : List Int) (i : Int) : Int := ((l.count i : Nat) : Int)
def namesL (l : List Int) : List Int := l.map (countL l)
def bump (i : Int) : List (Int × Int) → List (Int × Int)
  | [] => [(i, 1)]
  | (j, x) :: m => if i = j then (i, x + 1) :: m else (j, x) :: bump i m
theorem bump_set (i : Int) : ∀ m : List (Int × Int), kvSet (.int .i64 i) (.v (.int .i64 ((m.lookup i).getD 0 + 1))) (m.map kvI) = (bump i m).map kvI
  | [] => rfl
  | (j, x) :: m => by
    have ih := bump_set i m
    rw [List.map_cons, kvI, kvSet, bump, List.lookup]
    simp only [keyEq, decide_true, Bool.true_and]
    by_cases h : i = j
    · subst h
      simp [kvI]
    · have hb : (i == j) = false := by simpa using h
      rw [hb, if_neg (by simp), if_neg h]
      rw [List.map_cons, ← ih]
      rfl
theorem bump_at (i k : Int) : ∀ m : List (Int × Int), ((bump i m).lookup k).getD 0 = (m.lookup k).getD 0 + (if k = i then 1 else 0)
  | [] => by
    rw [bump]
    show ((match k == i with | true => some 1 | false => none) : Option Int).getD 0 = _
    by_cases h : k = i
    · subst h; simp
    · have hb : (k == i) = false := by simpa using h
      rw [hb, if_neg h]
      rfl
  | (j, x) :: m => by
    have ih := bump_at i k m
    rw [bump]
    by_cases h : i = j
    · subst h
      rw [if_pos rfl, List.lookup, List.lookup]
      by_cases h2 : k = i
      · subst h2; simp
      · have hb : (k == i) = false := by simpa using h2
        rw [hb, if_neg h2]
        simp
    · rw [if_neg h, List.lookup, List.lookup]
      by_cases h2 : k = j
      · subst h2
        rw [if_neg (fun e => h e.symm)]
        simp
      · have hb : (k == j) = false := by simpa using h2
        rw [hb]
        exact ih
theorem bump_len (i : Int) : ∀ m : List (Int × Int), (bump i m).length ≤ m.length + 1
  | [] => Nat.le_refl _
  | (j, x) :: m => by
    rw [bump]
    split
    · simp
    · have := bump_len i m
      simp only [List.length_cons]
      omega
theorem firsts_len : ∀ (l : List NodeT) (k : Nat) (m : List (Int × Int)), (firstsL l k m).1.length = l.length
  | [], _, _ => rfl
  | n :: r, k, m => by rw [firstsL, List.length_cons, List.length_cons, firsts_len r]
theorem linkNames_ac (xs : List NodeT) (hg : ∀ n ∈ xs, NodeGood n) (hl : xs.length ≤ 1000000) (hc : chkF xs = 0) : AC CX 63 [.row 12 (xs.map encNode)] (.tup [.row 1 ((namesL (firstsL xs 0 []).1).map encI), .v (.int .i64 0)]) := by
  have hf := firsts_ac xs hg hl hc
  have hlen := firsts_len xs 0 []
  generalize (firstsL xs 0 []).1 = L at hf hlen
  have cI : ∀ o : List Int, ClosedE (o.map encI) := fun o => ClosedE_map (fun _ _ => rfl) o
  refine AC_walk ⟨TB, 49, 0, [], []⟩ (fn := Tryd.f63) TB_ok Tryd.func63 rfl rfl rfl rfl rfl (fun _ => rfl) (fun _ => rfl) ?_; intro E hna hX
  repeat (first | ((with_reducible show W _ _ _ _ _ _); first | refine W_seq ?_ | refine W_block ?_ | refine W_region hX ?_ | refine W_cond ?_ | refine W_skip ?_ | refine W_exit ?_ | refine W_ret ?_) | ((fail_if_success (with_reducible show W _ _ _ _ _ _)); show W _ _ _ _ _ _) | refine andA ?_ | refine condT ?_ | refine condF ?_ | refine exB ?_ | refine exL ?_ | refine Exists.intro _ (And.intro rfl ?_) | refine Exists.intro _ (And.intro (get_mapN (by assumption)) ?_) | ((fail_if_success (with_reducible show LoopEnd _ _ _ _ _ _ _)); show LoopEnd _ _ _ _ _ _ _) | ((fail_if_success (with_reducible show JoinEnd _ _ _ _ _)); show JoinEnd _ _ _ _ _) | ((fail_if_success (with_reducible show JoinG _ _ _ _ _)); show JoinG _ _ _ _ _))
  refine ⟨_, hf, by kernel_rfl, fun _ => rfl, ?_⟩
  repeat (first | ((with_reducible show W _ _ _ _ _ _); first | refine W_seq ?_ | refine W_block ?_ | refine W_region hX ?_ | refine W_cond ?_ | refine W_skip ?_ | refine W_exit ?_ | refine W_ret ?_) | ((fail_if_success (with_reducible show W _ _ _ _ _ _)); show W _ _ _ _ _ _) | refine andA ?_ | refine condT ?_ | refine condF ?_ | refine exB ?_ | refine exL ?_ | refine Exists.intro _ (And.intro rfl ?_) | refine Exists.intro _ (And.intro (get_mapN (by assumption)) ?_) | ((fail_if_success (with_reducible show LoopEnd _ _ _ _ _ _ _)); show LoopEnd _ _ _ _ _ _ _) | ((fail_if_success (with_reducible show JoinEnd _ _ _ _ _)); show JoinEnd _ _ _ _ _) | ((fail_if_success (with_reducible show JoinG _ _ _ _ _)); show JoinG _ _ _ _ _))
  refine W_loop (γ := Nat × List (Int × Int)) (fun g => g.1 ≤ L.length ∧ ∀ i, (g.2.lookup i).getD 0 = countL (L.take g.1) i) (fun g => L.length - g.1) (fun g => ⟨[(4, .row 1 (L.map encI)), (6, .mp 0), (21, .row 1 (L.map encI)), (22, .v (.int .i64 L.length)), (23, .v (.int .i64 g.1))], [.map (.int .i64) (g.2.map kvI)]⟩) (0, []) ⟨Nat.zero_le _, fun i => rfl⟩ (Drops.to [4, 6, 21, 22, 23] rfl) ?_
  rintro ⟨k, m⟩ ⟨hk, hm⟩
  dsimp only at hk hm ⊢
  repeat (first | ((with_reducible show W _ _ _ _ _ _); first | refine W_seq ?_ | refine W_block ?_ | refine W_region hX ?_ | refine W_cond ?_ | refine W_skip ?_ | refine W_exit ?_ | refine W_ret ?_) | ((fail_if_success (with_reducible show W _ _ _ _ _ _)); show W _ _ _ _ _ _) | refine andA ?_ | refine condT ?_ | refine condF ?_ | refine exB ?_ | refine exL ?_ | refine Exists.intro _ (And.intro rfl ?_) | refine Exists.intro _ (And.intro (get_mapN (by assumption)) ?_) | ((fail_if_success (with_reducible show LoopEnd _ _ _ _ _ _ _)); show LoopEnd _ _ _ _ _ _ _) | ((fail_if_success (with_reducible show JoinEnd _ _ _ _ _)); show JoinEnd _ _ _ _ _) | ((fail_if_success (with_reducible show JoinG _ _ _ _ _)); show JoinG _ _ _ _ _))
  refine condB_intro (fun h1 => ?_) (fun h1 => ?_)
  · have e1 : (k : Int) < (L.length : Int) := of_decide_eq_true h1
    obtain ⟨x, hx⟩ := get_lt (l := L) (k := k) (by omega)
    have hmx := hm x
    have hcl : ((L.take k).count x) ≤ L.length := Nat.le_trans List.count_le_length (by rw [List.length_take]; omega)
    have hcx : countL (L.take k) x ≤ 1000000 ∧ 0 ≤ countL (L.take k) x := by unfold countL; omega
    have hkv : ∀ z, z = AV.v (.int .i64 0) → (kvFind (.int .i64 x) (m.map kvI)).getD z = .v (.int .i64 (countL (L.take k) x)) := fun z hz => by
      subst hz
      rw [kvI_at, ← hm x]
      cases m.lookup x <;> rfl
    have hset := bump_set x m
    rw [hmx] at hset
    repeat (first | ((with_reducible show W _ _ _ _ _ _); first | refine W_seq ?_ | refine W_block ?_ | refine W_region hX ?_ | refine W_cond ?_ | refine W_skip ?_ | refine W_exit ?_ | refine W_ret ?_) | ((fail_if_success (with_reducible show W _ _ _ _ _ _)); show W _ _ _ _ _ _) | refine andA ?_ | refine condT ?_ | refine condF ?_ | refine exB ?_ | refine exL ?_ | refine Exists.intro _ (And.intro rfl ?_) | refine Exists.intro _ (And.intro (get_mapN (by assumption)) ?_) | ((fail_if_success (with_reducible show LoopEnd _ _ _ _ _ _ _)); show LoopEnd _ _ _ _ _ _ _) | ((fail_if_success (with_reducible show JoinEnd _ _ _ _ _)); show JoinEnd _ _ _ _ _) | ((fail_if_success (with_reducible show JoinG _ _ _ _ _)); show JoinG _ _ _ _ _))
    rw [hkv]
    rotate_left
    · rfl
    repeat (first | ((with_reducible show W _ _ _ _ _ _); first | refine W_seq ?_ | refine W_block ?_ | refine W_region hX ?_ | refine W_cond ?_ | refine W_skip ?_ | refine W_exit ?_ | refine W_ret ?_) | ((fail_if_success (with_reducible show W _ _ _ _ _ _)); show W _ _ _ _ _ _) | refine andA ?_ | refine condT ?_ | refine condF ?_ | refine exB ?_ | refine exL ?_ | refine Exists.intro _ (And.intro rfl ?_) | refine Exists.intro _ (And.intro (get_mapN (by assumption)) ?_) | ((fail_if_success (with_reducible show LoopEnd _ _ _ _ _ _ _)); show LoopEnd _ _ _ _ _ _ _) | ((fail_if_success (with_reducible show JoinEnd _ _ _ _ _)); show JoinEnd _ _ _ _ _) | ((fail_if_success (with_reducible show JoinG _ _ _ _ _)); show JoinG _ _ _ _ _))
    refine ⟨(bump x m).map kvI, ⟨hset⟩, ?_⟩
    repeat (first | ((with_reducible show W _ _ _ _ _ _); first | refine W_seq ?_ | refine W_block ?_ | refine W_region hX ?_ | refine W_cond ?_ | refine W_skip ?_ | refine W_exit ?_ | refine W_ret ?_) | ((fail_if_success (with_reducible show W _ _ _ _ _ _)); show W _ _ _ _ _ _) | refine andA ?_ | refine condT ?_ | refine condF ?_ | refine exB ?_ | refine exL ?_ | refine Exists.intro _ (And.intro rfl ?_) | refine Exists.intro _ (And.intro (get_mapN (by assumption)) ?_) | ((fail_if_success (with_reducible show LoopEnd _ _ _ _ _ _ _)); show LoopEnd _ _ _ _ _ _ _) | ((fail_if_success (with_reducible show JoinEnd _ _ _ _ _)); show JoinEnd _ _ _ _ _) | ((fail_if_success (with_reducible show JoinG _ _ _ _ _)); show JoinG _ _ _ _ _))
    refine LoopEnd_fin (k + 1, bump x m) [4, 6, 21, 22, 23] 1 hX ⟨by show k + 1 ≤ L.length; omega, fun i => ?_⟩ (by show L.length - (k + 1) < L.length - k; omega) rfl rfl rfl rfl ⟨cKI _, trivial⟩
    show ((bump x m).lookup i).getD 0 = countL (L.take (k + 1)) i
    rw [bump_at, hm i, take_snoc hx]
    unfold countL
    rw [List.count_append, List.count_singleton]
    by_cases h : i = x
    · subst h; simp
    · have hb : (x == i) = false := by simpa using Ne.symm h
      rw [if_neg h, hb]
      simp
  · have e1 : ¬ (k : Int) < (L.length : Int) := of_decide_eq_false h1
    obtain rfl : k = L.length := by omega
    rw [List.take_length] at hm
    have hcount : ∀ i, countL L i ≤ 1000000 ∧ 0 ≤ countL L i := fun i => by
      have : L.count i ≤ L.length := List.count_le_length
      unfold countL
      omega
    repeat (first | ((with_reducible show W _ _ _ _ _ _); first | refine W_seq ?_ | refine W_region hX ?_ | refine W_cond ?_ | refine W_skip ?_ | refine W_exit ?_ | refine W_ret ?_) | ((fail_if_success (with_reducible show W _ _ _ _ _ _)); show W _ _ _ _ _ _) | refine andA ?_ | refine condT ?_ | refine condF ?_ | refine exB ?_ | refine exL ?_ | refine Exists.intro _ (And.intro rfl ?_) | refine Exists.intro _ (And.intro (get_mapN (by assumption)) ?_) | ((fail_if_success (with_reducible show LoopEnd _ _ _ _ _ _ _)); show LoopEnd _ _ _ _ _ _ _) | ((fail_if_success (with_reducible show JoinEnd _ _ _ _ _)); show JoinEnd _ _ _ _ _) | ((fail_if_success (with_reducible show JoinG _ _ _ _ _)); show JoinG _ _ _ _ _))
    refine .inl (And.intro rfl (And.intro (by omega) ?_))
    repeat (first | ((with_reducible show W _ _ _ _ _ _); first | refine W_seq ?_ | refine W_block ?_ | refine W_region hX ?_ | refine W_cond ?_ | refine W_skip ?_ | refine W_exit ?_ | refine W_ret ?_) | ((fail_if_success (with_reducible show W _ _ _ _ _ _)); show W _ _ _ _ _ _) | refine andA ?_ | refine condT ?_ | refine condF ?_ | refine exB ?_ | refine exL ?_ | refine Exists.intro _ (And.intro rfl ?_) | refine Exists.intro _ (And.intro (get_mapN (by assumption)) ?_) | ((fail_if_success (with_reducible show LoopEnd _ _ _ _ _ _ _)); show LoopEnd _ _ _ _ _ _ _) | ((fail_if_success (with_reducible show JoinEnd _ _ _ _ _)); show JoinEnd _ _ _ _ _) | ((fail_if_success (with_reducible show JoinG _ _ _ _ _)); show JoinG _ _ _ _ _))
    refine W_loop (fun k : Nat => k ≤ L.length) (fun k => L.length - k) (fun k => ⟨[(6, .mp 0), (9, .own 1 1 0 k), (35, .row 1 (L.map encI)), (36, .v (.int .i64 L.length)), (37, .v (.int .i64 k))], [.map (.int .i64) (m.map kvI), .row 3 1 (((L.take k).map (countL L)).map encI)]⟩) 0 (Nat.zero_le _) (Drops.to [6, 9, 35, 36, 37] rfl) ?_
    intro k hk
    repeat (first | ((with_reducible show W _ _ _ _ _ _); first | refine W_seq ?_ | refine W_block ?_ | refine W_region hX ?_ | refine W_cond ?_ | refine W_skip ?_ | refine W_exit ?_ | refine W_ret ?_) | ((fail_if_success (with_reducible show W _ _ _ _ _ _)); show W _ _ _ _ _ _) | refine andA ?_ | refine condT ?_ | refine condF ?_ | refine exB ?_ | refine exL ?_ | refine Exists.intro _ (And.intro rfl ?_) | refine Exists.intro _ (And.intro (get_mapN (by assumption)) ?_) | ((fail_if_success (with_reducible show LoopEnd _ _ _ _ _ _ _)); show LoopEnd _ _ _ _ _ _ _) | ((fail_if_success (with_reducible show JoinEnd _ _ _ _ _)); show JoinEnd _ _ _ _ _) | ((fail_if_success (with_reducible show JoinG _ _ _ _ _)); show JoinG _ _ _ _ _))
    refine condB_intro (fun h1 => ?_) (fun h1 => ?_)
    · have e1 : (k : Int) < (L.length : Int) := of_decide_eq_true h1
      obtain ⟨x, hx⟩ := get_lt (l := L) (k := k) (by omega)
      have hkv : ∀ z, z = AV.v (.int .i64 0) → (kvFind (.int .i64 x) (m.map kvI)).getD z = .v (.int .i64 (countL L x)) := fun z hz => by
        subst hz
        rw [kvI_at, ← hm x]
        cases m.lookup x <;> rfl
      repeat (first | ((with_reducible show W _ _ _ _ _ _); first | refine W_seq ?_ | refine W_block ?_ | refine W_region hX ?_ | refine W_cond ?_ | refine W_skip ?_ | refine W_exit ?_ | refine W_ret ?_) | ((fail_if_success (with_reducible show W _ _ _ _ _ _)); show W _ _ _ _ _ _) | refine andA ?_ | refine condT ?_ | refine condF ?_ | refine exB ?_ | refine exL ?_ | refine Exists.intro _ (And.intro rfl ?_) | refine Exists.intro _ (And.intro (get_mapN (by assumption)) ?_) | ((fail_if_success (with_reducible show LoopEnd _ _ _ _ _ _ _)); show LoopEnd _ _ _ _ _ _ _) | ((fail_if_success (with_reducible show JoinEnd _ _ _ _ _)); show JoinEnd _ _ _ _ _) | ((fail_if_success (with_reducible show JoinG _ _ _ _ _)); show JoinG _ _ _ _ _))
      rw [hkv]
      rotate_left
      · rfl
      repeat (first | ((with_reducible show W _ _ _ _ _ _); first | refine W_seq ?_ | refine W_block ?_ | refine W_region hX ?_ | refine W_cond ?_ | refine W_skip ?_ | refine W_exit ?_ | refine W_ret ?_) | ((fail_if_success (with_reducible show W _ _ _ _ _ _)); show W _ _ _ _ _ _) | refine andA ?_ | refine condT ?_ | refine condF ?_ | refine exB ?_ | refine exL ?_ | refine Exists.intro _ (And.intro rfl ?_) | refine Exists.intro _ (And.intro (get_mapN (by assumption)) ?_) | ((fail_if_success (with_reducible show LoopEnd _ _ _ _ _ _ _)); show LoopEnd _ _ _ _ _ _ _) | ((fail_if_success (with_reducible show JoinEnd _ _ _ _ _)); show JoinEnd _ _ _ _ _) | ((fail_if_success (with_reducible show JoinG _ _ _ _ _)); show JoinG _ _ _ _ _))
      refine ⟨⟨cKI _, True.intro⟩, fun _ => rfl, cI _, k + 1, ((L.take (k + 1)).map (countL L)).map encI, rfl, by rw [take_snoc hx, List.map_append, List.map_append]; rfl, ?_⟩
      repeat (first | ((with_reducible show W _ _ _ _ _ _); first | refine W_seq ?_ | refine W_block ?_ | refine W_region hX ?_ | refine W_cond ?_ | refine W_skip ?_ | refine W_exit ?_ | refine W_ret ?_) | ((fail_if_success (with_reducible show W _ _ _ _ _ _)); show W _ _ _ _ _ _) | refine andA ?_ | refine condT ?_ | refine condF ?_ | refine exB ?_ | refine exL ?_ | refine Exists.intro _ (And.intro rfl ?_) | refine Exists.intro _ (And.intro (get_mapN (by assumption)) ?_) | ((fail_if_success (with_reducible show LoopEnd _ _ _ _ _ _ _)); show LoopEnd _ _ _ _ _ _ _) | ((fail_if_success (with_reducible show JoinEnd _ _ _ _ _)); show JoinEnd _ _ _ _ _) | ((fail_if_success (with_reducible show JoinG _ _ _ _ _)); show JoinG _ _ _ _ _))
      exact LoopEnd_fin (k + 1) [6, 9, 35, 36, 37] 2 hX (by omega) (by omega) rfl rfl rfl rfl ⟨cKI _, cI _, trivial⟩
    · have e1 : ¬ (k : Int) < (L.length : Int) := of_decide_eq_false h1
      obtain rfl : k = L.length := by omega
      repeat (first | ((with_reducible show W _ _ _ _ _ _); first | refine W_seq ?_ | refine W_block ?_ | refine W_region hX ?_ | refine W_cond ?_ | refine W_skip ?_ | refine W_exit ?_) | ((fail_if_success (with_reducible show W _ _ _ _ _ _)); show W _ _ _ _ _ _) | refine andA ?_ | refine condT ?_ | refine condF ?_ | refine exB ?_ | refine exL ?_ | refine Exists.intro _ (And.intro rfl ?_) | refine Exists.intro _ (And.intro (get_mapN (by assumption)) ?_) | ((fail_if_success (with_reducible show LoopEnd _ _ _ _ _ _ _)); show LoopEnd _ _ _ _ _ _ _) | ((fail_if_success (with_reducible show JoinEnd _ _ _ _ _)); show JoinEnd _ _ _ _ _) | ((fail_if_success (with_reducible show JoinG _ _ _ _ _)); show JoinG _ _ _ _ _))
      refine W_freeze hna 1 [2] rfl (fun t ht => by simp at ht; subst ht; rfl) (by simp) (cI _) ⟨cKI _, True.intro⟩ rfl ?_
      repeat (first | ((with_reducible show W _ _ _ _ _ _); first | refine W_seq ?_ | refine W_block ?_ | refine W_region hX ?_ | refine W_cond ?_ | refine W_skip ?_ | refine W_exit ?_ | refine W_ret ?_) | ((fail_if_success (with_reducible show W _ _ _ _ _ _)); show W _ _ _ _ _ _) | refine andA ?_ | refine condT ?_ | refine condF ?_ | refine exB ?_ | refine exL ?_ | refine Exists.intro _ (And.intro rfl ?_) | refine Exists.intro _ (And.intro (get_mapN (by assumption)) ?_) | ((fail_if_success (with_reducible show LoopEnd _ _ _ _ _ _ _)); show LoopEnd _ _ _ _ _ _ _) | ((fail_if_success (with_reducible show JoinEnd _ _ _ _ _)); show JoinEnd _ _ _ _ _) | ((fail_if_success (with_reducible show JoinG _ _ _ _ _)); show JoinG _ _ _ _ _))
      rw [List.take_length]
      rfl
end Go.Proofs.YtaogbdfmoeolnaaDoor.Abs
