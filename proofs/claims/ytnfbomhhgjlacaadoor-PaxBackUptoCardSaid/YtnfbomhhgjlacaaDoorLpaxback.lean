/- The law PaxBack. -/
import Derived.Test.YtnfbomhhgjlacaaDoorRpax
import Derived.Test.YtnfbomhhgjlacaaDoorDr18
import Derived.Test.YtnfbomhhgjlacaaDoorDr12
namespace Go.Proofs.YtnfbomhhgjlacaaDoor.Abs
open Go.RowKit Go.MapKept
set_option linter.unusedVariables false
set_option linter.unusedSimpArgs false
set_option maxRecDepth 100000
set_option maxHeartbeats 4000000
theorem recordsOfR_ac (c : UInt8) (l : List RawT) (hl : l.length ≤ 100000000) (hg : ∀ r ∈ l, RawGood r) : AC CX 29 [.row 4 (l.map encRaw), .v (.string ⟨#[c]⟩)] (.row 2 ((recsL c l).map encRec)) :=
  AC_of_ACB (recordsOf_acb c l hl hg) rfl (List.length_map _) (fun i => cR _ i)
theorem growRec_acb (n : Nat) (hn : n ≤ 1000) : ACB CX 85 [.v (.slice none 0 0), .v (.int .i64 n)] [] (.own 0 2 0 0) [.row 70 2 []] := by
  refine ACB_walk ⟨TB, 27, 0, [], []⟩ (fn := Tryd.f85) TB_ok Tryd.func85 rfl rfl rfl rfl (fun i h => by cases h) rfl ?_; intro E hX
  repeat (first | ((with_reducible show W _ _ _ _ _ _); first | refine W_seq ?_ | refine W_block ?_ | refine W_regionB hX 3 rfl ?_ | refine W_cond ?_ | refine W_skip ?_ | refine W_exit ?_ | refine W_ret ?_) | ((fail_if_success (with_reducible show W _ _ _ _ _ _)); show W _ _ _ _ _ _) | refine andA ?_ | refine condT ?_ | refine condF ?_ | refine exB ?_ | refine exL ?_ | refine Exists.intro _ (And.intro rfl ?_) | refine Exists.intro _ (And.intro (get_mapN (by assumption)) ?_) | ((fail_if_success (with_reducible show LoopEnd _ _ _ _ _ _ _)); show LoopEnd _ _ _ _ _ _ _) | ((fail_if_success (with_reducible show JoinEnd _ _ _ _ _)); show JoinEnd _ _ _ _ _) | ((fail_if_success (with_reducible show JoinG _ _ _ _ _)); show JoinG _ _ _ _ _))
  refine W_regionW hX [.n, .n, .y] ?_
  refine goT ?_
  refine ⟨_, fun E => Y_capNil rfl Tryd.underlying64 rfl, ?_⟩
  refine goT ?_
  refine condB_intro (fun h1 => ?_) (fun h1 => ?_)
  · repeat (first | ((with_reducible show W _ _ _ _ _ _); first | refine W_seq ?_ | refine W_block ?_ | refine W_regionB hX 5 rfl ?_ | refine W_cond ?_ | refine W_skip ?_ | refine W_exit ?_ | refine W_ret ?_) | ((fail_if_success (with_reducible show W _ _ _ _ _ _)); show W _ _ _ _ _ _) | refine andA ?_ | refine condT ?_ | refine condF ?_ | refine exB ?_ | refine exL ?_ | refine Exists.intro _ (And.intro rfl ?_) | refine Exists.intro _ (And.intro (get_mapN (by assumption)) ?_) | ((fail_if_success (with_reducible show LoopEnd _ _ _ _ _ _ _)); show LoopEnd _ _ _ _ _ _ _) | ((fail_if_success (with_reducible show JoinEnd _ _ _ _ _)); show JoinEnd _ _ _ _ _) | ((fail_if_success (with_reducible show JoinG _ _ _ _ _)); show JoinG _ _ _ _ _))
    refine W_regionW hX [.n, .n, .y, .y, .n, .nw] ?_
    refine goT ?_
    refine ⟨_, fun E => Y_capNil rfl Tryd.underlying64 rfl, ?_⟩
    refine goT ?_
    refine ⟨_, fun E => Y_sliceNil (sz := 2) rfl rfl (by kernel_rfl) (.inl ⟨rfl, rfl⟩) (.inr ⟨_, _, rfl, rfl⟩), ?_⟩
    refine goT ?_
    refine ⟨.own 0 2 0 n, .row 70 2 [], fun E => Y_zerosNil (e := 70) (sz := 2) (by_ := 32) (m := n) rfl rfl (by show AV.v (.int .i64 ((n : Int) - (0 - 0))) = _; rw [Int.sub_self, Int.sub_zero]) (by kernel_rfl) Tryd.underlying3 (by omega) (by unfold maxLen; omega), ?_⟩
    refine goT ?_
    refine ⟨⟨Nat.le_refl _, Nat.zero_le _, .inl rfl⟩, ?_⟩
    refine goT ?_
    exact ⟨[], rfl⟩
  · have hz : n = 0 := by have := of_decide_eq_false h1; omega
    subst hz
    repeat (first | ((with_reducible show W _ _ _ _ _ _); first | refine W_seq ?_ | refine W_block ?_ | refine W_region hX ?_ | refine W_cond ?_ | refine W_skip ?_ | refine W_exit ?_) | ((fail_if_success (with_reducible show W _ _ _ _ _ _)); show W _ _ _ _ _ _) | refine andA ?_ | refine condT ?_ | refine condF ?_ | refine exB ?_ | refine exL ?_ | refine Exists.intro _ (And.intro rfl ?_) | refine Exists.intro _ (And.intro (get_mapN (by assumption)) ?_) | ((fail_if_success (with_reducible show LoopEnd _ _ _ _ _ _ _)); show LoopEnd _ _ _ _ _ _ _) | ((fail_if_success (with_reducible show JoinEnd _ _ _ _ _)); show JoinEnd _ _ _ _ _) | ((fail_if_success (with_reducible show JoinG _ _ _ _ _)); show JoinG _ _ _ _ _))
    refine W_nilOwn hX 4 70 2 rfl rfl ?_
    refine goT ?_
    exact ⟨[], rfl⟩
def rcS (a b : List RecT) : Nat → Int
  | 0 => 0
  | 1 => 0 + (a.length : Int)
  | _ => 0 + (a.length : Int) + (b.length : Int)
def rcL (a b : List RecT) : Nat → List RecT
  | 0 => []
  | 1 => a
  | _ => a ++ b
theorem concatRec_ac (a b : List RecT) (ha : a.length ≤ 100) (hb : b.length ≤ 100) : AC CX 36 [.row 1 [[.row 2 (a.map encRec)], [.row 2 (b.map encRec)]]] (.row 2 ((a ++ b).map encRec)) := by
  have hgr := growRec_acb (a.length + b.length) (by omega)
  have hsum : (0 : Int) + (a.length : Int) + (b.length : Int) = ((a.length + b.length : Nat) : Int) := by omega
  refine AC_walk ⟨TB, 36, 0, [], []⟩ (fn := Tryd.f36) TB_ok Tryd.func36 rfl rfl rfl rfl rfl (fun _ => rfl) (fun _ => rfl) ?_; intro E hna hX
  refine goT ?_
  refine W_loop (fun k : Nat => k ≤ 2) (fun k => 2 - k) (fun k => ⟨[(0, .row 1 [[.row 2 (a.map encRec)], [.row 2 (b.map encRec)]]), (3, .v (.int .i64 (rcS a b k))), (9, .row 1 [[.row 2 (a.map encRec)], [.row 2 (b.map encRec)]]), (10, .v (.int .i64 2)), (11, .v (.int .i64 k))], []⟩) 0 (Nat.zero_le _) (Drops.to [0, 3, 9, 10, 11] rfl) ?_
  intro k hk
  obtain rfl | rfl | rfl : k = 0 ∨ k = 1 ∨ k = 2 := by omega
  · have e0 : rcS a b 0 = 0 := rfl
    refine goT ?_
    exact LoopEnd_fin 1 [0, 3, 9, 10, 11] 0 hX (by decide) (by decide) rfl rfl rfl rfl trivial
  · have e0 : rcS a b 1 = 0 + (a.length : Int) := rfl
    refine goT ?_
    exact LoopEnd_fin 2 [0, 3, 9, 10, 11] 0 hX (by decide) (by decide) rfl rfl rfl rfl trivial
  · have e0 : rcS a b 2 = ((a.length + b.length : Nat) : Int) := hsum
    rw [e0]
    repeat (first | ((with_reducible show W _ _ _ _ _ _); first | refine W_seq ?_ | refine W_block ?_ | refine W_regionB hX 9 rfl ?_ | refine W_cond ?_ | refine W_skip ?_ | refine W_exit ?_ | refine W_ret ?_) | ((fail_if_success (with_reducible show W _ _ _ _ _ _)); show W _ _ _ _ _ _) | refine andA ?_ | refine condT ?_ | refine condF ?_ | refine exB ?_ | refine exL ?_ | refine Exists.intro _ (And.intro rfl ?_) | refine Exists.intro _ (And.intro (get_mapN (by assumption)) ?_) | ((fail_if_success (with_reducible show LoopEnd _ _ _ _ _ _ _)); show LoopEnd _ _ _ _ _ _ _) | ((fail_if_success (with_reducible show JoinEnd _ _ _ _ _)); show JoinEnd _ _ _ _ _) | ((fail_if_success (with_reducible show JoinG _ _ _ _ _)); show JoinG _ _ _ _ _))
    refine W_regionN hX 1 ?_
    refine goT ?_
    refine ⟨[], _, _, _, _, ⟨hgr, by kernel_rfl, rfl, rfl, rfl, by decide, rfl, Nat.zero_le _, rfl, balln, ballc (fun _ => rfl) balln, rfl, fun j hj => (by cases hj), fun j hj => (by cases hj)⟩, ?_⟩
    refine goT ?_
    refine W_loop (fun k : Nat => k ≤ 2) (fun k => 2 - k) (fun k => ⟨[(6, .own 0 2 0 (rcL a b k).length), (25, .row 1 [[.row 2 (a.map encRec)], [.row 2 (b.map encRec)]]), (26, .v (.int .i64 2)), (27, .v (.int .i64 k))], [.row 70 2 ((rcL a b k).map encRec)]⟩) 0 (Nat.zero_le _) (Drops.to [6, 25, 26, 27] rfl) ?_
    intro k hk
    obtain rfl | rfl | rfl : k = 0 ∨ k = 1 ∨ k = 2 := by omega
    · have c0 : (rcL a b 0).length = 0 := rfl
      refine goT ?_
      refine ⟨a.length, a.map encRec, by rw [List.length_map]; exact Nat.zero_add _, List.nil_append _, ?_⟩
      refine goT ?_
      exact LoopEnd_fin 1 [6, 25, 26, 27] 1 hX (by decide) (by decide) rfl rfl rfl rfl ⟨cR a, trivial⟩
    · have c0 : (rcL a b 1).length = a.length := rfl
      have h1 : rcL a b 1 = a := rfl
      have h2 : rcL a b 2 = a ++ b := rfl
      refine goT ?_
      refine ⟨(a ++ b).length, (a ++ b).map encRec, by rw [List.length_append, c0, List.length_map], by rw [h1, List.map_append], ?_⟩
      refine goT ?_
      exact LoopEnd_fin 2 [6, 25, 26, 27] 1 hX (by decide) (by decide) rfl rfl rfl rfl ⟨cR _, trivial⟩
    · repeat (first | ((with_reducible show W _ _ _ _ _ _); first | refine W_seq ?_ | refine W_block ?_ | refine W_region hX ?_ | refine W_cond ?_ | refine W_skip ?_ | refine W_exit ?_) | ((fail_if_success (with_reducible show W _ _ _ _ _ _)); show W _ _ _ _ _ _) | refine andA ?_ | refine condT ?_ | refine condF ?_ | refine exB ?_ | refine exL ?_ | refine Exists.intro _ (And.intro rfl ?_) | refine Exists.intro _ (And.intro (get_mapN (by assumption)) ?_) | ((fail_if_success (with_reducible show LoopEnd _ _ _ _ _ _ _)); show LoopEnd _ _ _ _ _ _ _) | ((fail_if_success (with_reducible show JoinEnd _ _ _ _ _)); show JoinEnd _ _ _ _ _) | ((fail_if_success (with_reducible show JoinG _ _ _ _ _)); show JoinG _ _ _ _ _))
      refine W_freeze hna 0 [2] rfl (fun t ht => by simp at ht; subst ht; rfl) (List.length_map _) (cR _) True.intro rfl ?_
      refine goT ?_
      rfl
theorem equalRec_ac (l : List RecT) (hl : l.length ≤ 1000) : AC CX 35 [.row 2 (l.map encRec), .row 2 (l.map encRec)] (.v (.bool true)) := by
  have hll : l.length = l.length := rfl
  refine AC_walk ⟨TB, 26, 0, [], []⟩ (fn := Tryd.f35) TB_ok Tryd.func35 rfl rfl rfl rfl rfl (fun _ => rfl) (fun _ => rfl) ?_; intro E hna hX
  refine goT ?_
  rw [decide_eq_true (rfl : (l.length : Int) = (l.length : Int))]
  refine goT ?_
  refine W_loop (fun k : Nat => k ≤ l.length) (fun k => l.length - k) (fun k => ⟨[(0, .row 2 (l.map encRec)), (1, .row 2 (l.map encRec)), (12, .v (.int .i64 l.length)), (13, .v (.int .i64 k))], []⟩) 0 (Nat.zero_le _) (Drops.to [0, 1, 12, 13] rfl) ?_
  intro k hk
  refine goT ?_
  refine condB_intro (fun h1 => ?_) (fun h1 => ?_)
  · have e1 := of_decide_eq_true h1
    obtain ⟨x, hx⟩ := get_lt (l := l) (k := k) (by omega)
    refine goT ?_
    refine W_draw hX (n := 9) (follows_mixed Tryd.checked) (ws := [[], [], [(0, 16), (1, 17)], [(2, 18)], [], [], [(4, 20), (5, 21)], [(6, 22)], [(3, 19), (7, 23)]]) (ds := [16, 17, 18, 19, 20, 21, 22, 23, 24]) (bi := []) (wa := [(0, 16), (1, 17), (2, 18), (3, 19), (4, 20), (5, 21), (6, 22), (7, 23), (8, 24)]) ⟨by kernel_rfl, by kernel_rfl, by kernel_rfl, by kernel_rfl, by decide, by kernel_rfl, by kernel_rfl, rfl, by decide, rfl⟩ ?_
    refine goT ?_
    refine condF ?_ (by simp)
    refine goT ?_
    exact LoopEnd_fin (k + 1) [0, 1, 12, 13] 0 hX (by omega) (by omega) rfl rfl rfl rfl trivial
  · have e1 := of_decide_eq_false h1
    obtain rfl : k = l.length := by omega
    refine goT ?_
    rfl
theorem both_up (l m : List RawT) : UpTo (recsL 97 l ++ recsL 98 m) (recsL 97 l ++ recsL 98 m).length := fun i a b _ ha hb => by
  have h6 := recs_len 97 l
  have h7 := recs_len 98 m
  by_cases h1 : i + 1 < (recsL 97 l).length
  · rw [List.getElem?_append_left (by omega)] at ha hb
    exact recs_up 97 l (i + 2) i a b (by omega) ha hb
  · by_cases h2 : (recsL 97 l).length ≤ i
    · rw [List.getElem?_append_right (by omega)] at ha hb
      rw [show i + 1 - (recsL 97 l).length = i - (recsL 97 l).length + 1 by omega] at hb
      exact recs_up 98 m (i - (recsL 97 l).length + 2) _ a b (by omega) ha hb
    · rw [List.getElem?_append_left (by omega)] at ha
      rw [List.getElem?_append_right (by omega)] at hb
      obtain ⟨_, _, _, rfl⟩ := recs_get ha
      obtain ⟨_, _, _, rfl⟩ := recs_get hb
      exact key_cross (by decide) (by omega) (by omega)
def rec0 : RecT := ⟨⟨#[97]⟩, ⟨#[]⟩⟩
theorem rec0_ok : RecOk rec0 := ⟨by decide, by decide, by decide, by decide, by decide, by decide⟩
theorem cat0 : catB [rec0] = ⟨#[53, 32, 97, 61, 10]⟩ := by
  apply bytes_ext
  unfold catB
  rw [List.foldl_cons, List.foldl_nil, app_list, recB_list]
  have h : recN (restB rec0).size = 5 := by
    rw [restB_size]
    unfold recN
    have : rec0.key.size + rec0.val.size + 3 = 4 := rfl
    rw [this, recJ, if_pos (by rw [dd_small (by decide)]; rfl)]
  rw [h, dd_small (by decide)]
  rfl
theorem one_ac : AC CX 33 [.v (.string ⟨#[53, 32, 97, 61, 10]⟩)] (.tup [.row 2 [encRec rec0], .v (.int .i64 0)]) := by
  have h := paxRead_ac [rec0] 0 (by decide) (fun r hr => by rw [List.mem_singleton] at hr; subst hr; exact rec0_ok) (.inl ⟨rfl, fun i a b hi _ hb => by
    have := (List.getElem?_eq_some_iff.1 hb).1
    simp at this⟩)
  rw [cat0, if_pos rfl] at h
  exact h
theorem paxBackLaw_ac (l : List RawT) (hl : l.length ≤ 10000000) (hg : ∀ r ∈ l, RawGood r) (m : List RawT) (hm : m.length ≤ 10000000) (hgm : ∀ r ∈ m, RawGood r) : AC CX 10 [.row 4 (l.map encRaw), .row 4 (m.map encRaw)] (.v (.bool true)) := by
  have hr1 := recordsOfR_ac 97 l (by omega) hg
  have hr2 := recordsOfR_ac 98 m (by omega) hgm
  have k1 := recs_len 97 l
  have k2 := recs_len 98 m
  have o1 := recs_ok 97 (.inl rfl) l
  have o2 := recs_ok 98 (.inr rfl) m
  have oa : ∀ r ∈ recsL 97 l ++ recsL 98 m, RecOk r := fun r hr => by
    rcases List.mem_append.1 hr with h | h
    · exact o1 r h
    · exact o2 r h
  have hla : (recsL 97 l ++ recsL 98 m).length ≤ 12 := by rw [List.length_append]; omega
  have hw1 := paxWrite_ac (recsL 97 l) (by omega) o1 (recs_up 97 _ _)
  have hw2 := paxWrite_ac (recsL 98 m) (by omega) o2 (recs_up 98 _ _)
  have hrd := paxRead_ac (recsL 97 l ++ recsL 98 m) 0 hla oa (.inl ⟨rfl, both_up l m⟩)
  rw [catB_app, if_pos rfl] at hrd
  have hone := one_ac
  have hco := concatRec_ac (recsL 97 l) (recsL 98 m) (by omega) (by omega)
  have heq := equalRec_ac (recsL 97 l ++ recsL 98 m) (by omega)
  have z1 := catB_size (recsL 97 l) o1
  have z2 := catB_size (recsL 98 m) o2
  generalize recsL 97 l = x at *
  generalize recsL 98 m = y at *
  refine AC_walk ⟨TB, 67, 0, [], []⟩ (fn := Tryd.f10) TB_ok Tryd.func10 rfl rfl rfl rfl rfl (fun _ => rfl) (fun _ => rfl) ?_; intro E hna hX
  refine goT ?_
  refine ⟨_, hr1, by kernel_rfl, fun _ => rfl, ?_⟩
  refine goT ?_
  refine ⟨_, hr2, by kernel_rfl, fun _ => rfl, ?_⟩
  refine goT ?_
  refine ⟨_, hw1, by kernel_rfl, fun _ => rfl, ?_⟩
  refine goT ?_
  refine ⟨_, hw2, by kernel_rfl, fun _ => rfl, ?_⟩
  refine goT ?_
  refine ⟨_, hrd, by kernel_rfl, fun _ => rfl, ?_⟩
  refine goT ?_
  refine ⟨_, hone, by kernel_rfl, fun _ => rfl, ?_⟩
  refine goT ?_
  refine ⟨_, hco, by kernel_rfl, fun _ => rfl, ?_⟩
  refine goT ?_
  refine ⟨_, heq, by kernel_rfl, fun _ => rfl, ?_⟩
  refine goT ?_
  rfl
end Go.Proofs.YtnfbomhhgjlacaaDoor.Abs
