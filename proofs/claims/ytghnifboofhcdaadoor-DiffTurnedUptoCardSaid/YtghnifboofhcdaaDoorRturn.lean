/- The law of differences the other way round. -/
import Derived.Test.YtghnifboofhcdaaDoorRnone
namespace Go.Proofs.YtghnifboofhcdaaDoor.Abs
open Go.RowKit Go.MapKept
set_option linter.unusedVariables false
set_option linter.unusedSimpArgs false
set_option maxRecDepth 100000
set_option maxHeartbeats 4000000
def turnD (p : Int × NodeT) : Int × ByteArray := (if p.1 = 1 then 2 else if p.1 = 2 then 1 else p.1, p.2.path)
def keyD (p : Int × NodeT) : Int × ByteArray := (p.1, p.2.path)
theorem same_turn (a b : NodeT) : sameF b a = sameF a b := by
  unfold sameF
  rw [decide_eq_decide.2 (eq_comm (a := b.path)), decide_eq_decide.2 (eq_comm (a := b.kind)), decide_eq_decide.2 (eq_comm (a := b.target)), decide_eq_decide.2 (eq_comm (a := b.mt)), decide_eq_decide.2 (eq_comm (a := b.data))]
theorem cmp_turn {a b : ByteArray} (ha : pathChk a = 0) (hb : pathChk b = 0) : compareF b a = - compareF a b := by
  rw [compare_less ha hb, compare_less hb ha, lessF_tot.neg]
theorem diff_turn : ∀ (n : Nat) (l m : List NodeT), (∀ x ∈ l, pathChk x.path = 0) → (∀ x ∈ m, pathChk x.path = 0) → (diffF n m l).map keyD = (diffF n l m).map turnD
  | 0, _, _, _, _ => rfl
  | n + 1, [], [], _, _ => rfl
  | n + 1, a :: l, [], hl, hm => by
    rw [diffF, diffF, List.map_cons, List.map_cons, diff_turn n l [] (fun x hx => hl x (List.mem_cons_of_mem _ hx)) hm]
    rfl
  | n + 1, [], b :: m, hl, hm => by
    rw [diffF, diffF, List.map_cons, List.map_cons, diff_turn n [] m hl (fun x hx => hm x (List.mem_cons_of_mem _ hx))]
    rfl
  | n + 1, a :: l, b :: m, hl, hm => by
    have ha := hl a (List.mem_cons_self ..)
    have hb := hm b (List.mem_cons_self ..)
    have hl' : ∀ x ∈ l, pathChk x.path = 0 := fun x hx => hl x (List.mem_cons_of_mem _ hx)
    have hm' : ∀ x ∈ m, pathChk x.path = 0 := fun x hx => hm x (List.mem_cons_of_mem _ hx)
    rw [diffF, diffF, cmp_turn ha hb, same_turn, decide_eq_decide.2 (eq_comm (a := b.same))]
    by_cases h1 : compareF a.path b.path < 0
    · rw [if_neg (by omega), if_pos (by omega), if_pos h1, List.map_cons, List.map_cons, diff_turn n l (b :: m) hl' hm]
      rfl
    by_cases h2 : compareF a.path b.path > 0
    · rw [if_pos (by omega), if_neg h1, if_pos h2, List.map_cons, List.map_cons, diff_turn n (a :: l) m hl hm']
      rfl
    rw [if_neg (by omega), if_neg (by omega), if_neg h1, if_neg h2]
    by_cases h3 : (!sameF a b || !decide (a.same = b.same)) = true
    · rw [if_pos h3, if_pos h3, List.map_cons, List.map_cons, diff_turn n l m hl' hm']
      have e := (cmp_zero ha hb).1 (by omega)
      show (3, a.path) :: _ = (3, b.path) :: _
      rw [e]
    · rw [if_neg h3, if_neg h3]
      exact diff_turn n l m hl' hm'
theorem diff_kind : ∀ (n : Nat) (l m : List NodeT), ∀ p ∈ diffF n l m, p.1 = 1 ∨ p.1 = 2 ∨ p.1 = 3
  | 0, _, _, p, hp => by cases hp
  | n + 1, [], [], p, hp => by cases hp
  | n + 1, a :: l, [], p, hp => by
    rw [diffF] at hp
    rcases List.mem_cons.1 hp with rfl | hp
    · exact .inl rfl
    · exact diff_kind n l [] p hp
  | n + 1, [], b :: m, p, hp => by
    rw [diffF] at hp
    rcases List.mem_cons.1 hp with rfl | hp
    · exact .inr (.inl rfl)
    · exact diff_kind n [] m p hp
  | n + 1, a :: l, b :: m, p, hp => by
    rw [diffF] at hp
    split at hp
    · rcases List.mem_cons.1 hp with rfl | hp
      · exact .inl rfl
      · exact diff_kind n _ _ p hp
    split at hp
    · rcases List.mem_cons.1 hp with rfl | hp
      · exact .inr (.inl rfl)
      · exact diff_kind n _ _ p hp
    split at hp
    · rcases List.mem_cons.1 hp with rfl | hp
      · exact .inr (.inr rfl)
      · exact diff_kind n _ _ p hp
    · exact diff_kind n _ _ p hp
theorem turned_at {x y : List (Int × NodeT)} (h : y.map keyD = x.map turnD) : y.length = x.length ∧ ∀ (k : Nat) (p q : Int × NodeT), x[k]? = some p → y[k]? = some q → q.1 = (if p.1 = 1 then 2 else if p.1 = 2 then 1 else p.1) ∧ q.2.path = p.2.path := by
  refine ⟨by simpa using congrArg List.length h, fun k p q hp hq => ?_⟩
  have h1 : (y.map keyD)[k]? = (x.map turnD)[k]? := by rw [h]
  rw [List.getElem?_map, List.getElem?_map, hp, hq] at h1
  simp only [Option.map_some, Option.some.injEq, keyD, turnD, Prod.mk.injEq] at h1
  exact h1
theorem diff_len : ∀ (n : Nat) (l m : List NodeT), (diffF n l m).length ≤ n
  | 0, _, _ => Nat.le_refl _
  | n + 1, [], [] => Nat.zero_le _
  | n + 1, a :: l, [] => by rw [diffF, List.length_cons]; exact Nat.succ_le_succ (diff_len n l [])
  | n + 1, [], b :: m => by rw [diffF, List.length_cons]; exact Nat.succ_le_succ (diff_len n [] m)
  | n + 1, a :: l, b :: m => by
    rw [diffF]
    have h1 := diff_len n l (b :: m)
    have h2 := diff_len n (a :: l) m
    have h3 := diff_len n l m
    repeat' split
    all_goals (try rw [List.length_cons])
    all_goals omega
theorem turned_ac (l : List RawT) (hl : l.length ≤ 100000000) (hg : ∀ r ∈ l, RawGood r) (m : List RawT) (hm : m.length ≤ 100000000) (hgm : ∀ r ∈ m, RawGood r) : AC CX 4 [.row 4 (l.map encRaw), .row 4 (m.map encRaw)] (.v (.bool true)) := by
  obtain ⟨hT, hn⟩ := tree_ok (most := 15) hg (by decide)
  have hta := tree_ac l 15 hl hg
  generalize treeF l 15 = a at hT hn hta
  obtain ⟨hTb, hnb⟩ := tree_ok (most := 15) hgm (by decide)
  have htb := tree_ac m 15 hm hgm
  generalize treeF m 15 = b at hTb hnb htb
  have hca := check_tree hT (by omega)
  have hcb := check_tree hTb (by omega)
  have hx := of_ac a b (by omega) (by omega) hT.node hTb.node hca hcb
  have hy := of_ac b a (by omega) (by omega) hTb.node hT.node hcb hca
  have ht := diff_turn (a.length + b.length) a b (tree_path hT) (tree_path hTb)
  rw [Nat.add_comm b.length] at hy
  have hk := diff_kind (a.length + b.length) a b
  have hlen := diff_len (a.length + b.length) a b
  generalize diffF (a.length + b.length) a b = x at hx ht hk hlen
  generalize diffF (a.length + b.length) b a = y at hy ht
  obtain ⟨hyl, hat⟩ := turned_at ht
  obtain ⟨o, ho, hz⟩ := ofSmall_ac
  have hxy : ((x.length : Int) = (y.length : Int)) := by omega
  refine AC_walk ⟨TB, 93, 0, [], []⟩ (fn := Tryd.f4) TB_ok Tryd.func4 rfl rfl rfl rfl rfl (fun _ => rfl) (fun _ => rfl) ?_; intro E hna hX
  repeat (first | ((with_reducible show W _ _ _ _ _ _); first | refine W_seq ?_ | refine W_block ?_ | refine W_region hX ?_ | refine W_cond ?_ | refine W_skip ?_ | refine W_exit ?_ | refine W_ret ?_) | ((fail_if_success (with_reducible show W _ _ _ _ _ _)); show W _ _ _ _ _ _) | refine andA ?_ | refine condT ?_ | refine condF ?_ | refine exB ?_ | refine exL ?_ | refine Exists.intro _ (And.intro rfl ?_) | refine Exists.intro _ (And.intro (get_mapN (by assumption)) ?_) | ((fail_if_success (with_reducible show LoopEnd _ _ _ _ _ _ _)); show LoopEnd _ _ _ _ _ _ _) | ((fail_if_success (with_reducible show JoinEnd _ _ _ _ _)); show JoinEnd _ _ _ _ _) | ((fail_if_success (with_reducible show JoinG _ _ _ _ _)); show JoinG _ _ _ _ _))
  refine ⟨_, hta, by kernel_rfl, fun _ => rfl, ?_⟩
  repeat (first | ((with_reducible show W _ _ _ _ _ _); first | refine W_seq ?_ | refine W_block ?_ | refine W_region hX ?_ | refine W_cond ?_ | refine W_skip ?_ | refine W_exit ?_ | refine W_ret ?_) | ((fail_if_success (with_reducible show W _ _ _ _ _ _)); show W _ _ _ _ _ _) | refine andA ?_ | refine condT ?_ | refine condF ?_ | refine exB ?_ | refine exL ?_ | refine Exists.intro _ (And.intro rfl ?_) | refine Exists.intro _ (And.intro (get_mapN (by assumption)) ?_) | ((fail_if_success (with_reducible show LoopEnd _ _ _ _ _ _ _)); show LoopEnd _ _ _ _ _ _ _) | ((fail_if_success (with_reducible show JoinEnd _ _ _ _ _)); show JoinEnd _ _ _ _ _) | ((fail_if_success (with_reducible show JoinG _ _ _ _ _)); show JoinG _ _ _ _ _))
  refine ⟨_, htb, by kernel_rfl, fun _ => rfl, ?_⟩
  repeat (first | ((with_reducible show W _ _ _ _ _ _); first | refine W_seq ?_ | refine W_block ?_ | refine W_region hX ?_ | refine W_cond ?_ | refine W_skip ?_ | refine W_exit ?_ | refine W_ret ?_) | ((fail_if_success (with_reducible show W _ _ _ _ _ _)); show W _ _ _ _ _ _) | refine andA ?_ | refine condT ?_ | refine condF ?_ | refine exB ?_ | refine exL ?_ | refine Exists.intro _ (And.intro rfl ?_) | refine Exists.intro _ (And.intro (get_mapN (by assumption)) ?_) | ((fail_if_success (with_reducible show LoopEnd _ _ _ _ _ _ _)); show LoopEnd _ _ _ _ _ _ _) | ((fail_if_success (with_reducible show JoinEnd _ _ _ _ _)); show JoinEnd _ _ _ _ _) | ((fail_if_success (with_reducible show JoinG _ _ _ _ _)); show JoinG _ _ _ _ _))
  refine ⟨_, hx, by kernel_rfl, fun _ => rfl, ?_⟩
  repeat (first | ((with_reducible show W _ _ _ _ _ _); first | refine W_seq ?_ | refine W_block ?_ | refine W_region hX ?_ | refine W_cond ?_ | refine W_skip ?_ | refine W_exit ?_ | refine W_ret ?_) | ((fail_if_success (with_reducible show W _ _ _ _ _ _)); show W _ _ _ _ _ _) | refine andA ?_ | refine condT ?_ | refine condF ?_ | refine exB ?_ | refine exL ?_ | refine Exists.intro _ (And.intro rfl ?_) | refine Exists.intro _ (And.intro (get_mapN (by assumption)) ?_) | ((fail_if_success (with_reducible show LoopEnd _ _ _ _ _ _ _)); show LoopEnd _ _ _ _ _ _ _) | ((fail_if_success (with_reducible show JoinEnd _ _ _ _ _)); show JoinEnd _ _ _ _ _) | ((fail_if_success (with_reducible show JoinG _ _ _ _ _)); show JoinG _ _ _ _ _))
  refine ⟨_, hy, by kernel_rfl, fun _ => rfl, ?_⟩
  repeat (first | ((with_reducible show W _ _ _ _ _ _); first | refine W_seq ?_ | refine W_block ?_ | refine W_region hX ?_ | refine W_cond ?_ | refine W_skip ?_ | refine W_exit ?_ | refine W_ret ?_) | ((fail_if_success (with_reducible show W _ _ _ _ _ _)); show W _ _ _ _ _ _) | refine andA ?_ | refine condT ?_ | refine condF ?_ | refine exB ?_ | refine exL ?_ | refine Exists.intro _ (And.intro rfl ?_) | refine Exists.intro _ (And.intro (get_mapN (by assumption)) ?_) | ((fail_if_success (with_reducible show LoopEnd _ _ _ _ _ _ _)); show LoopEnd _ _ _ _ _ _ _) | ((fail_if_success (with_reducible show JoinEnd _ _ _ _ _)); show JoinEnd _ _ _ _ _) | ((fail_if_success (with_reducible show JoinG _ _ _ _ _)); show JoinG _ _ _ _ _))
  refine ⟨_, small_ac, by kernel_rfl, fun _ => rfl, ?_⟩
  repeat (first | ((with_reducible show W _ _ _ _ _ _); first | refine W_seq ?_ | refine W_block ?_ | refine W_region hX ?_ | refine W_cond ?_ | refine W_skip ?_ | refine W_exit ?_ | refine W_ret ?_) | ((fail_if_success (with_reducible show W _ _ _ _ _ _)); show W _ _ _ _ _ _) | refine andA ?_ | refine condT ?_ | refine condF ?_ | refine exB ?_ | refine exL ?_ | refine Exists.intro _ (And.intro rfl ?_) | refine Exists.intro _ (And.intro (get_mapN (by assumption)) ?_) | ((fail_if_success (with_reducible show LoopEnd _ _ _ _ _ _ _)); show LoopEnd _ _ _ _ _ _ _) | ((fail_if_success (with_reducible show JoinEnd _ _ _ _ _)); show JoinEnd _ _ _ _ _) | ((fail_if_success (with_reducible show JoinG _ _ _ _ _)); show JoinG _ _ _ _ _))
  refine ⟨_, hz, by kernel_rfl, fun _ => rfl, ?_⟩
  repeat (first | ((with_reducible show W _ _ _ _ _ _); first | refine W_seq ?_ | refine W_block ?_ | refine W_region hX ?_ | refine W_cond ?_ | refine W_skip ?_ | refine W_exit ?_ | refine W_ret ?_) | ((fail_if_success (with_reducible show W _ _ _ _ _ _)); show W _ _ _ _ _ _) | refine andA ?_ | refine condT ?_ | refine condF ?_ | refine exB ?_ | refine exL ?_ | refine Exists.intro _ (And.intro rfl ?_) | refine Exists.intro _ (And.intro (get_mapN (by assumption)) ?_) | ((fail_if_success (with_reducible show LoopEnd _ _ _ _ _ _ _)); show LoopEnd _ _ _ _ _ _ _) | ((fail_if_success (with_reducible show JoinEnd _ _ _ _ _)); show JoinEnd _ _ _ _ _) | ((fail_if_success (with_reducible show JoinG _ _ _ _ _)); show JoinG _ _ _ _ _))
  refine W_loop (fun k : Nat => k ≤ x.length) (fun k => x.length - k) (fun k => ⟨[(7, .row 13 (x.map encD)), (9, .row 13 (y.map encD)), (58, .v (.int .i64 x.length)), (59, .v (.int .i64 k))], []⟩) 0 (Nat.zero_le _) (Drops.to [7, 9, 58, 59] rfl) ?_
  intro k hk'
  repeat (first | ((with_reducible show W _ _ _ _ _ _); first | refine W_seq ?_ | refine W_block ?_ | refine W_region hX ?_ | refine W_cond ?_ | refine W_skip ?_ | refine W_exit ?_ | refine W_ret ?_) | ((fail_if_success (with_reducible show W _ _ _ _ _ _)); show W _ _ _ _ _ _) | refine andA ?_ | refine condT ?_ | refine condF ?_ | refine exB ?_ | refine exL ?_ | refine Exists.intro _ (And.intro rfl ?_) | refine Exists.intro _ (And.intro (get_mapN (by assumption)) ?_) | ((fail_if_success (with_reducible show LoopEnd _ _ _ _ _ _ _)); show LoopEnd _ _ _ _ _ _ _) | ((fail_if_success (with_reducible show JoinEnd _ _ _ _ _)); show JoinEnd _ _ _ _ _) | ((fail_if_success (with_reducible show JoinG _ _ _ _ _)); show JoinG _ _ _ _ _))
  refine condB_intro (fun h1 => ?_) (fun h1 => ?_)
  · have e1 := of_decide_eq_true h1
    obtain ⟨⟨p1, p2⟩, hp⟩ := get_lt (l := x) (k := k) (by omega)
    obtain ⟨⟨q1, q2⟩, hq⟩ := get_lt (l := y) (k := k) (by omega)
    obtain ⟨hq1, hq2⟩ := hat k _ _ hp hq
    have hkd := hk _ (List.mem_of_getElem? hp)
    dsimp only at hq1 hq2 hkd
    have hpq : (!decide (p2.path = q2.path)) = false := by rw [Bool.not_eq_false', decide_eq_true_eq]; exact hq2.symm
    rcases hkd with rfl | rfl | rfl
    · obtain rfl : q1 = 2 := hq1
      repeat (first | ((with_reducible show W _ _ _ _ _ _); first | refine W_seq ?_ | refine W_block ?_ | refine W_region hX ?_ | refine W_cond ?_ | refine W_skip ?_ | refine W_exit ?_ | refine W_ret ?_) | ((fail_if_success (with_reducible show W _ _ _ _ _ _)); show W _ _ _ _ _ _) | refine andA ?_ | refine condT ?_ | refine condF ?_ | refine exB ?_ | refine exL ?_ | refine Exists.intro _ (And.intro rfl ?_) | refine Exists.intro _ (And.intro (get_mapN (by assumption)) ?_) | ((fail_if_success (with_reducible show LoopEnd _ _ _ _ _ _ _)); show LoopEnd _ _ _ _ _ _ _) | ((fail_if_success (with_reducible show JoinEnd _ _ _ _ _)); show JoinEnd _ _ _ _ _) | ((fail_if_success (with_reducible show JoinG _ _ _ _ _)); show JoinG _ _ _ _ _))
      refine W_draw hX (n := 30) (follows_mixed Tryd.checked) (ws := [[], [], [(0, 62), (1, 63)], [(2, 64)], [(3, 65)], [], [], [], [(6, 68), (7, 69)], [(8, 70)], [(9, 71)], [(10, 72)], [(5, 67), (11, 73)], [(12, 74)], [(4, 66), (13, 75)], [(14, 76)], [(15, 77)], [(15, 77)], [(15, 77), (16, 78), (17, 79)], [(15, 77), (18, 80)], [(15, 77), (19, 81)], [(15, 77), (20, 82)], [(15, 77)], [(15, 77)], [(15, 77), (22, 84), (23, 85)], [(15, 77), (24, 86)], [(15, 77), (25, 87)], [(15, 77), (26, 88)], [(15, 77), (21, 83), (27, 89)], [(15, 77), (28, 90)]]) (ds := [62, 63, 64, 65, 66, 67, 68, 69, 70, 71, 72, 73, 74, 75, 76, 77, 78, 79, 80, 81, 82, 83, 84, 85, 86, 87, 88, 89, 90, 91]) (bi := []) (wa := [(0, 62), (1, 63), (2, 64), (3, 65), (4, 66), (5, 67), (6, 68), (7, 69), (8, 70), (9, 71), (10, 72), (11, 73), (12, 74), (13, 75), (14, 76), (15, 77), (16, 78), (17, 79), (18, 80), (19, 81), (20, 82), (21, 83), (22, 84), (23, 85), (24, 86), (25, 87), (26, 88), (27, 89), (28, 90), (29, 91)]) ⟨by kernel_rfl, by kernel_rfl, by kernel_rfl, by kernel_rfl, by decide, by kernel_rfl, by kernel_rfl, rfl, by decide, rfl⟩ ?_
      repeat (first | ((with_reducible show W _ _ _ _ _ _); first | refine W_seq ?_ | refine W_block ?_ | refine W_region hX ?_ | refine W_cond ?_ | refine W_skip ?_ | refine W_exit ?_ | refine W_ret ?_) | ((fail_if_success (with_reducible show W _ _ _ _ _ _)); show W _ _ _ _ _ _) | refine andA ?_ | refine condT ?_ | refine condF ?_ | refine exB ?_ | refine exL ?_ | refine Exists.intro _ (And.intro rfl ?_) | refine Exists.intro _ (And.intro (get_mapN (by assumption)) ?_) | ((fail_if_success (with_reducible show LoopEnd _ _ _ _ _ _ _)); show LoopEnd _ _ _ _ _ _ _) | ((fail_if_success (with_reducible show JoinEnd _ _ _ _ _)); show JoinEnd _ _ _ _ _) | ((fail_if_success (with_reducible show JoinG _ _ _ _ _)); show JoinG _ _ _ _ _))
      exact LoopEnd_fin (k + 1) [7, 9, 58, 59] 0 hX (by omega) (by omega) rfl rfl rfl rfl trivial
    · obtain rfl : q1 = 1 := hq1
      repeat (first | ((with_reducible show W _ _ _ _ _ _); first | refine W_seq ?_ | refine W_block ?_ | refine W_region hX ?_ | refine W_cond ?_ | refine W_skip ?_ | refine W_exit ?_ | refine W_ret ?_) | ((fail_if_success (with_reducible show W _ _ _ _ _ _)); show W _ _ _ _ _ _) | refine andA ?_ | refine condT ?_ | refine condF ?_ | refine exB ?_ | refine exL ?_ | refine Exists.intro _ (And.intro rfl ?_) | refine Exists.intro _ (And.intro (get_mapN (by assumption)) ?_) | ((fail_if_success (with_reducible show LoopEnd _ _ _ _ _ _ _)); show LoopEnd _ _ _ _ _ _ _) | ((fail_if_success (with_reducible show JoinEnd _ _ _ _ _)); show JoinEnd _ _ _ _ _) | ((fail_if_success (with_reducible show JoinG _ _ _ _ _)); show JoinG _ _ _ _ _))
      refine W_draw hX (n := 30) (follows_mixed Tryd.checked) (ws := [[], [], [(0, 62), (1, 63)], [(2, 64)], [(3, 65)], [], [], [], [(6, 68), (7, 69)], [(8, 70)], [(9, 71)], [(10, 72)], [(5, 67), (11, 73)], [(12, 74)], [(4, 66), (13, 75)], [(14, 76)], [(15, 77)], [(15, 77)], [(15, 77), (16, 78), (17, 79)], [(15, 77), (18, 80)], [(15, 77), (19, 81)], [(15, 77), (20, 82)], [(15, 77)], [(15, 77)], [(15, 77), (22, 84), (23, 85)], [(15, 77), (24, 86)], [(15, 77), (25, 87)], [(15, 77), (26, 88)], [(15, 77), (21, 83), (27, 89)], [(15, 77), (28, 90)]]) (ds := [62, 63, 64, 65, 66, 67, 68, 69, 70, 71, 72, 73, 74, 75, 76, 77, 78, 79, 80, 81, 82, 83, 84, 85, 86, 87, 88, 89, 90, 91]) (bi := []) (wa := [(0, 62), (1, 63), (2, 64), (3, 65), (4, 66), (5, 67), (6, 68), (7, 69), (8, 70), (9, 71), (10, 72), (11, 73), (12, 74), (13, 75), (14, 76), (15, 77), (16, 78), (17, 79), (18, 80), (19, 81), (20, 82), (21, 83), (22, 84), (23, 85), (24, 86), (25, 87), (26, 88), (27, 89), (28, 90), (29, 91)]) ⟨by kernel_rfl, by kernel_rfl, by kernel_rfl, by kernel_rfl, by decide, by kernel_rfl, by kernel_rfl, rfl, by decide, rfl⟩ ?_
      repeat (first | ((with_reducible show W _ _ _ _ _ _); first | refine W_seq ?_ | refine W_block ?_ | refine W_region hX ?_ | refine W_cond ?_ | refine W_skip ?_ | refine W_exit ?_ | refine W_ret ?_) | ((fail_if_success (with_reducible show W _ _ _ _ _ _)); show W _ _ _ _ _ _) | refine andA ?_ | refine condT ?_ | refine condF ?_ | refine exB ?_ | refine exL ?_ | refine Exists.intro _ (And.intro rfl ?_) | refine Exists.intro _ (And.intro (get_mapN (by assumption)) ?_) | ((fail_if_success (with_reducible show LoopEnd _ _ _ _ _ _ _)); show LoopEnd _ _ _ _ _ _ _) | ((fail_if_success (with_reducible show JoinEnd _ _ _ _ _)); show JoinEnd _ _ _ _ _) | ((fail_if_success (with_reducible show JoinG _ _ _ _ _)); show JoinG _ _ _ _ _))
      exact LoopEnd_fin (k + 1) [7, 9, 58, 59] 0 hX (by omega) (by omega) rfl rfl rfl rfl trivial
    · obtain rfl : q1 = 3 := hq1
      repeat (first | ((with_reducible show W _ _ _ _ _ _); first | refine W_seq ?_ | refine W_block ?_ | refine W_region hX ?_ | refine W_cond ?_ | refine W_skip ?_ | refine W_exit ?_ | refine W_ret ?_) | ((fail_if_success (with_reducible show W _ _ _ _ _ _)); show W _ _ _ _ _ _) | refine andA ?_ | refine condT ?_ | refine condF ?_ | refine exB ?_ | refine exL ?_ | refine Exists.intro _ (And.intro rfl ?_) | refine Exists.intro _ (And.intro (get_mapN (by assumption)) ?_) | ((fail_if_success (with_reducible show LoopEnd _ _ _ _ _ _ _)); show LoopEnd _ _ _ _ _ _ _) | ((fail_if_success (with_reducible show JoinEnd _ _ _ _ _)); show JoinEnd _ _ _ _ _) | ((fail_if_success (with_reducible show JoinG _ _ _ _ _)); show JoinG _ _ _ _ _))
      refine W_draw hX (n := 30) (follows_mixed Tryd.checked) (ws := [[], [], [(0, 62), (1, 63)], [(2, 64)], [(3, 65)], [], [], [], [(6, 68), (7, 69)], [(8, 70)], [(9, 71)], [(10, 72)], [(5, 67), (11, 73)], [(12, 74)], [(4, 66), (13, 75)], [(14, 76)], [(15, 77)], [(15, 77)], [(15, 77), (16, 78), (17, 79)], [(15, 77), (18, 80)], [(15, 77), (19, 81)], [(15, 77), (20, 82)], [(15, 77)], [(15, 77)], [(15, 77), (22, 84), (23, 85)], [(15, 77), (24, 86)], [(15, 77), (25, 87)], [(15, 77), (26, 88)], [(15, 77), (21, 83), (27, 89)], [(15, 77), (28, 90)]]) (ds := [62, 63, 64, 65, 66, 67, 68, 69, 70, 71, 72, 73, 74, 75, 76, 77, 78, 79, 80, 81, 82, 83, 84, 85, 86, 87, 88, 89, 90, 91]) (bi := []) (wa := [(0, 62), (1, 63), (2, 64), (3, 65), (4, 66), (5, 67), (6, 68), (7, 69), (8, 70), (9, 71), (10, 72), (11, 73), (12, 74), (13, 75), (14, 76), (15, 77), (16, 78), (17, 79), (18, 80), (19, 81), (20, 82), (21, 83), (22, 84), (23, 85), (24, 86), (25, 87), (26, 88), (27, 89), (28, 90), (29, 91)]) ⟨by kernel_rfl, by kernel_rfl, by kernel_rfl, by kernel_rfl, by decide, by kernel_rfl, by kernel_rfl, rfl, by decide, rfl⟩ ?_
      repeat (first | ((with_reducible show W _ _ _ _ _ _); first | refine W_seq ?_ | refine W_block ?_ | refine W_region hX ?_ | refine W_cond ?_ | refine W_skip ?_ | refine W_exit ?_ | refine W_ret ?_) | ((fail_if_success (with_reducible show W _ _ _ _ _ _)); show W _ _ _ _ _ _) | refine andA ?_ | refine condT ?_ | refine condF ?_ | refine exB ?_ | refine exL ?_ | refine Exists.intro _ (And.intro rfl ?_) | refine Exists.intro _ (And.intro (get_mapN (by assumption)) ?_) | ((fail_if_success (with_reducible show LoopEnd _ _ _ _ _ _ _)); show LoopEnd _ _ _ _ _ _ _) | ((fail_if_success (with_reducible show JoinEnd _ _ _ _ _)); show JoinEnd _ _ _ _ _) | ((fail_if_success (with_reducible show JoinG _ _ _ _ _)); show JoinG _ _ _ _ _))
      exact LoopEnd_fin (k + 1) [7, 9, 58, 59] 0 hX (by omega) (by omega) rfl rfl rfl rfl trivial
  · repeat (first | ((with_reducible show W _ _ _ _ _ _); first | refine W_seq ?_ | refine W_block ?_ | refine W_region hX ?_ | refine W_cond ?_ | refine W_skip ?_ | refine W_exit ?_ | refine W_ret ?_) | ((fail_if_success (with_reducible show W _ _ _ _ _ _)); show W _ _ _ _ _ _) | refine andA ?_ | refine condT ?_ | refine condF ?_ | refine exB ?_ | refine exL ?_ | refine Exists.intro _ (And.intro rfl ?_) | refine Exists.intro _ (And.intro (get_mapN (by assumption)) ?_) | ((fail_if_success (with_reducible show LoopEnd _ _ _ _ _ _ _)); show LoopEnd _ _ _ _ _ _ _) | ((fail_if_success (with_reducible show JoinEnd _ _ _ _ _)); show JoinEnd _ _ _ _ _) | ((fail_if_success (with_reducible show JoinG _ _ _ _ _)); show JoinG _ _ _ _ _))
    rfl
end Go.Proofs.YtghnifboofhcdaaDoor.Abs
