/- The law of trees that are alike by whatever numbers. -/
import Derived.Test.YtaogbdfmoeolnaaDoorRdalike
import Derived.Test.YtaogbdfmoeolnaaDoorRlanew
import Derived.Test.YtaogbdfmoeolnaaDoorDr10
namespace Go.Proofs.YtaogbdfmoeolnaaDoor.Abs
open Go.RowKit Go.MapKept
set_option linter.unusedVariables false
set_option linter.unusedSimpArgs false
set_option maxRecDepth 100000
set_option maxHeartbeats 4000000
theorem nodeIs {a b : NodeT} : a = b ↔ sameF a b = true ∧ a.same = b.same := by
  rw [sameF_iff]
  constructor
  · rintro rfl
    exact ⟨rfl, rfl⟩
  · rintro ⟨h1, h2⟩
    have e2 : ∀ (z : NodeT), z = { ({ z with same := 0 } : NodeT) with same := z.same } := fun z => rfl
    rw [e2 a, e2 b, h1, h2]
theorem dalike1_ac (a b : NodeT) : AC CX 34 [.agg (encNode a), .agg (encNode b)] (.v (.bool (decide (a = b)))) := by
  have key : decide (a = b) = (sameF a b && decide (a.same = b.same)) := by
    rw [Bool.eq_iff_iff, decide_eq_true_eq, Bool.and_eq_true, decide_eq_true_eq]
    exact nodeIs
  rw [key]
  have hs := dSame_ac a b
  refine AC_walk ⟨TB, 15, 0, [], []⟩ (fn := Tryd.f34) TB_ok Tryd.func34 rfl rfl rfl rfl rfl (fun _ => rfl) (fun _ => rfl) ?_; intro E hna hX
  repeat (first | ((with_reducible show W _ _ _ _ _ _); first | refine W_seq ?_ | refine W_block ?_ | refine W_region hX ?_ | refine W_cond ?_ | refine W_skip ?_ | refine W_exit ?_ | refine W_ret ?_) | ((fail_if_success (with_reducible show W _ _ _ _ _ _)); show W _ _ _ _ _ _) | refine andA ?_ | refine condT ?_ | refine condF ?_ | refine exB ?_ | refine exL ?_ | refine Exists.intro _ (And.intro rfl ?_) | refine Exists.intro _ (And.intro (get_mapN (by assumption)) ?_) | ((fail_if_success (with_reducible show LoopEnd _ _ _ _ _ _ _)); show LoopEnd _ _ _ _ _ _ _) | ((fail_if_success (with_reducible show JoinEnd _ _ _ _ _)); show JoinEnd _ _ _ _ _) | ((fail_if_success (with_reducible show JoinG _ _ _ _ _)); show JoinG _ _ _ _ _))
  refine ⟨_, hs, by kernel_rfl, fun _ => rfl, ?_⟩
  cases hq : sameF a b with
  | true =>
    repeat (first | ((with_reducible show W _ _ _ _ _ _); first | refine W_seq ?_ | refine W_block ?_ | refine W_region hX ?_ | refine W_cond ?_ | refine W_skip ?_ | refine W_exit ?_ | refine W_ret ?_) | ((fail_if_success (with_reducible show W _ _ _ _ _ _)); show W _ _ _ _ _ _) | refine andA ?_ | refine condT ?_ | refine condF ?_ | refine exB ?_ | refine exL ?_ | refine Exists.intro _ (And.intro rfl ?_) | refine Exists.intro _ (And.intro (get_mapN (by assumption)) ?_) | ((fail_if_success (with_reducible show LoopEnd _ _ _ _ _ _ _)); show LoopEnd _ _ _ _ _ _ _) | ((fail_if_success (with_reducible show JoinEnd _ _ _ _ _)); show JoinEnd _ _ _ _ _) | ((fail_if_success (with_reducible show JoinG _ _ _ _ _)); show JoinG _ _ _ _ _))
    rfl
  | false =>
    repeat (first | ((with_reducible show W _ _ _ _ _ _); first | refine W_seq ?_ | refine W_block ?_ | refine W_region hX ?_ | refine W_cond ?_ | refine W_skip ?_ | refine W_exit ?_ | refine W_ret ?_) | ((fail_if_success (with_reducible show W _ _ _ _ _ _)); show W _ _ _ _ _ _) | refine andA ?_ | refine condT ?_ | refine condF ?_ | refine exB ?_ | refine exL ?_ | refine Exists.intro _ (And.intro rfl ?_) | refine Exists.intro _ (And.intro (get_mapN (by assumption)) ?_) | ((fail_if_success (with_reducible show LoopEnd _ _ _ _ _ _ _)); show LoopEnd _ _ _ _ _ _ _) | ((fail_if_success (with_reducible show JoinEnd _ _ _ _ _)); show JoinEnd _ _ _ _ _) | ((fail_if_success (with_reducible show JoinG _ _ _ _ _)); show JoinG _ _ _ _ _))
    rfl
theorem dalike_ac {a b : List NodeT} (hA : TreeOk a) (hB : TreeOk b) (ha : a.length ≤ 40) (hb : b.length ≤ 40) : AC CX 8 [.row 12 (a.map encNode), .row 12 (b.map encNode)] (.tup [.v (.bool (decide (AlikeP a b))), .v (.int .i64 0)]) := by
  have hx := anewT_ac hA ha
  have hy := anewT_ac hB hb
  have hlx := anew_len a
  have hly := anew_len b
  have he := equalFunc_ac (anewL a) (anewL b) 34 (by omega) (by omega) (by kernel_rfl) dalike1_ac
  have hd : decide (anewL a = anewL b) = decide (AlikeP a b) := decide_eq_decide.2 (alike_anew hA hB).symm
  rw [hd] at he
  clear hd
  obtain ⟨x, ex⟩ : ∃ x, x = anewL a := ⟨_, rfl⟩
  obtain ⟨y, ey⟩ : ∃ y, y = anewL b := ⟨_, rfl⟩
  rw [← ex] at hx he hlx
  rw [← ey] at hy he hly
  refine AC_walk ⟨TB, 28, 0, [], []⟩ (fn := Tryd.f8) TB_ok Tryd.func8 rfl rfl rfl rfl rfl (fun _ => rfl) (fun _ => rfl) ?_; intro E hna hX
  repeat (first | ((with_reducible show W _ _ _ _ _ _); first | refine W_seq ?_ | refine W_block ?_ | refine W_region hX ?_ | refine W_cond ?_ | refine W_skip ?_ | refine W_exit ?_ | refine W_ret ?_) | ((fail_if_success (with_reducible show W _ _ _ _ _ _)); show W _ _ _ _ _ _) | refine andA ?_ | refine condT ?_ | refine condF ?_ | refine exB ?_ | refine exL ?_ | refine Exists.intro _ (And.intro rfl ?_) | refine Exists.intro _ (And.intro (get_mapN (by assumption)) ?_) | ((fail_if_success (with_reducible show LoopEnd _ _ _ _ _ _ _)); show LoopEnd _ _ _ _ _ _ _) | ((fail_if_success (with_reducible show JoinEnd _ _ _ _ _)); show JoinEnd _ _ _ _ _) | ((fail_if_success (with_reducible show JoinG _ _ _ _ _)); show JoinG _ _ _ _ _))
  refine ⟨_, hx, by kernel_rfl, fun _ => rfl, ?_⟩
  repeat (first | ((with_reducible show W _ _ _ _ _ _); first | refine W_seq ?_ | refine W_block ?_ | refine W_region hX ?_ | refine W_cond ?_ | refine W_skip ?_ | refine W_exit ?_ | refine W_ret ?_) | ((fail_if_success (with_reducible show W _ _ _ _ _ _)); show W _ _ _ _ _ _) | refine andA ?_ | refine condT ?_ | refine condF ?_ | refine exB ?_ | refine exL ?_ | refine Exists.intro _ (And.intro rfl ?_) | refine Exists.intro _ (And.intro (get_mapN (by assumption)) ?_) | ((fail_if_success (with_reducible show LoopEnd _ _ _ _ _ _ _)); show LoopEnd _ _ _ _ _ _ _) | ((fail_if_success (with_reducible show JoinEnd _ _ _ _ _)); show JoinEnd _ _ _ _ _) | ((fail_if_success (with_reducible show JoinG _ _ _ _ _)); show JoinG _ _ _ _ _))
  refine ⟨_, hy, by kernel_rfl, fun _ => rfl, ?_⟩
  repeat (first | ((with_reducible show W _ _ _ _ _ _); first | refine W_seq ?_ | refine W_block ?_ | refine W_region hX ?_ | refine W_cond ?_ | refine W_skip ?_ | refine W_exit ?_ | refine W_ret ?_) | ((fail_if_success (with_reducible show W _ _ _ _ _ _)); show W _ _ _ _ _ _) | refine andA ?_ | refine condT ?_ | refine condF ?_ | refine exB ?_ | refine exL ?_ | refine Exists.intro _ (And.intro rfl ?_) | refine Exists.intro _ (And.intro (get_mapN (by assumption)) ?_) | ((fail_if_success (with_reducible show LoopEnd _ _ _ _ _ _ _)); show LoopEnd _ _ _ _ _ _ _) | ((fail_if_success (with_reducible show JoinEnd _ _ _ _ _)); show JoinEnd _ _ _ _ _) | ((fail_if_success (with_reducible show JoinG _ _ _ _ _)); show JoinG _ _ _ _ _))
  refine ⟨_, he, by kernel_rfl, fun _ => rfl, ?_⟩
  repeat (first | ((with_reducible show W _ _ _ _ _ _); first | refine W_seq ?_ | refine W_block ?_ | refine W_region hX ?_ | refine W_cond ?_ | refine W_skip ?_ | refine W_exit ?_ | refine W_ret ?_) | ((fail_if_success (with_reducible show W _ _ _ _ _ _)); show W _ _ _ _ _ _) | refine andA ?_ | refine condT ?_ | refine condF ?_ | refine exB ?_ | refine exL ?_ | refine Exists.intro _ (And.intro rfl ?_) | refine Exists.intro _ (And.intro (get_mapN (by assumption)) ?_) | ((fail_if_success (with_reducible show LoopEnd _ _ _ _ _ _ _)); show LoopEnd _ _ _ _ _ _ _) | ((fail_if_success (with_reducible show JoinEnd _ _ _ _ _)); show JoinEnd _ _ _ _ _) | ((fail_if_success (with_reducible show JoinG _ _ _ _ _)); show JoinG _ _ _ _ _))
  rfl
theorem dalikeSmall_ac : AC CX 8 [.row 12 (smallT.map encNode), .v (.slice none 0 0)] (.tup [.v (.bool false), .v (.int .i64 0)]) := by
  have hTs : TreeOk smallT := (tree_of small_good (by kernel_rfl)).1
  have hl : smallT.length = 3 := rfl
  have h := dalike_ac hTs tree_nil (by omega) (Nat.zero_le _)
  rw [decide_eq_false (fun h => by have := h.1; rw [hl] at this; cases this)] at h
  exact fun w vs ok hgd hG hr => by
    obtain ⟨v, rest, rfl, hv, v2, rest2, rfl, hv2, hr⟩ := hr
    exact h w _ ok hgd hG ⟨v, _, rfl, hv, v2, rest2, rfl, Imp.nil 12 _ _ _ _ hv2, hr⟩
theorem dsmall_ex : ∃ s : List (List AV), (∀ i, avoidsLL i s = true) ∧ AC CX 9 [] (.row 12 s) ∧ AC CX 8 [.row 12 s, .v (.slice none 0 0)] (.tup [.v (.bool false), .v (.int .i64 0)]) := ⟨smallT.map encNode, cN _, small_ac, dalikeSmall_ac⟩
theorem bump_take {t : List NodeT} {k : Nat} {x : NodeT} (p : Int) (hx : t[k]? = some x) : ((t.take k).map (bumpN p) ++ t.drop k)[k]? = some x ∧ ((t.take k).map (bumpN p) ++ t.drop k).set k (bumpN p x) = (t.take (k + 1)).map (bumpN p) ++ t.drop (k + 1) := by
  have hk := (List.getElem?_eq_some_iff.1 hx).1
  have hl : ((t.take k).map (bumpN p)).length = k := by rw [List.length_map, List.length_take]; omega
  constructor
  · rw [List.getElem?_append_right (by omega), hl, Nat.sub_self, List.getElem?_drop, Nat.add_zero, hx]
  · rw [List.set_append_right _ _ (by omega), hl, Nat.sub_self, drop_at hx, take_snoc hx, List.map_append]
    simp
theorem tree_same {l : List RawT} {most : Int} (hg : ∀ r ∈ l, RawGood r) (h0 : 0 ≤ most) : ∀ x ∈ treeF l most, x.same ≤ most := by
  have hI0 : Inv [] [⟨#[]⟩] := ⟨fun n hn => (by cases hn), fun d hd => .inl (by simpa using hd), fun n hn => (by cases hn), fun n hn => (by cases hn)⟩
  have hT0 : TInv 0 [] [⟨#[]⟩] := ⟨Nat.le_refl _, Nat.le_refl _, by decide, fun d hd => (by rw [List.mem_singleton] at hd; subst hd; decide), fun n hn => (by cases hn), by simp⟩
  obtain ⟨dirs, k, h1, h2, h3⟩ := grow_inv (most := most) l [] [⟨#[]⟩] 0 hg hI0 hT0 (.inr rfl)
  unfold treeF
  generalize growT most l ([], [⟨#[]⟩]) = t at h1 h2 h3
  have hp : (sortF t).Perm t := List.mergeSort_perm t nodeLe
  intro x hx
  rcases h1.own x (hp.mem_iff.1 hx) with h | ⟨a1, u, a2, _⟩
  · omega
  · have := (List.getElem?_eq_some_iff.1 a2).1
    rcases h3 with h | h
    · omega
    · rw [h] at this; simp at this
theorem dalikeLaw_ac (l : List RawT) (hl : l.length ≤ 100000000) (hg : ∀ r ∈ l, RawGood r) (m : List RawT) (hm : m.length ≤ 100000000) (hgm : ∀ r ∈ m, RawGood r) (i : Int) (hi : isI i) : AC CX 3 [.row 4 (l.map encRaw), .row 4 (m.map encRaw), .v (.int .i64 i)] (.v (.bool true)) := by
  obtain ⟨hT, hn⟩ := tree_ok (most := 15) hg (by decide)
  have hta := tree_ac l 15 hl hg
  have htn := tree_acb l 15 hl hg
  have hsame := tree_same (most := 15) hg (by decide)
  generalize treeF l 15 = a at hT hn hta htn hsame
  obtain ⟨hTb, hnb⟩ := tree_ok (most := 15) hgm (by decide)
  have htb := tree_ac m 15 hm hgm
  generalize treeF m 15 = b at hTb hnb htb
  have p1 := pick_lt (n := i) (m := 1000) (by decide)
  have hTc := bump_tree hT p1.1
  have hac := dalike_ac hT hTc (by omega) (by rw [List.length_map]; omega)
  rw [decide_eq_true ((alike_anew hT hTc).2 (bump_anew hT p1.1).symm)] at hac
  have hab := dalike_ac hT hTb (by omega) (by omega)
  have hal := aliket_ac a b (by omega) (by omega)
  generalize decide (AlikeP a b) = q at hab hal
  have hpick := picked_ac i 1000 hi (by decide)
  generalize pickF i 1000 = p at p1 hTc hac hpick
  obtain ⟨sm, hsc, hsm, hsa⟩ := dsmall_ex
  refine AC_walk ⟨TB, 87, 0, [], []⟩ (fn := Tryd.f3) TB_ok Tryd.func3 rfl rfl rfl rfl rfl (fun _ => rfl) (fun _ => rfl) ?_; intro E hna hX
  repeat (first | ((with_reducible show W _ _ _ _ _ _); first | refine W_seq ?_ | refine W_block ?_ | refine W_region hX ?_ | refine W_cond ?_ | refine W_skip ?_ | refine W_exit ?_ | refine W_ret ?_) | ((fail_if_success (with_reducible show W _ _ _ _ _ _)); show W _ _ _ _ _ _) | refine andA ?_ | refine condT ?_ | refine condF ?_ | refine exB ?_ | refine exL ?_ | refine Exists.intro _ (And.intro rfl ?_) | refine Exists.intro _ (And.intro (get_mapN (by assumption)) ?_) | ((fail_if_success (with_reducible show LoopEnd _ _ _ _ _ _ _)); show LoopEnd _ _ _ _ _ _ _) | ((fail_if_success (with_reducible show JoinEnd _ _ _ _ _)); show JoinEnd _ _ _ _ _) | ((fail_if_success (with_reducible show JoinG _ _ _ _ _)); show JoinG _ _ _ _ _))
  refine ⟨_, hta, by kernel_rfl, fun _ => rfl, ?_⟩
  repeat (first | ((with_reducible show W _ _ _ _ _ _); first | refine W_seq ?_ | refine W_block ?_ | refine W_region hX ?_ | refine W_cond ?_ | refine W_skip ?_ | refine W_exit ?_ | refine W_ret ?_) | ((fail_if_success (with_reducible show W _ _ _ _ _ _)); show W _ _ _ _ _ _) | refine andA ?_ | refine condT ?_ | refine condF ?_ | refine exB ?_ | refine exL ?_ | refine Exists.intro _ (And.intro rfl ?_) | refine Exists.intro _ (And.intro (get_mapN (by assumption)) ?_) | ((fail_if_success (with_reducible show LoopEnd _ _ _ _ _ _ _)); show LoopEnd _ _ _ _ _ _ _) | ((fail_if_success (with_reducible show JoinEnd _ _ _ _ _)); show JoinEnd _ _ _ _ _) | ((fail_if_success (with_reducible show JoinG _ _ _ _ _)); show JoinG _ _ _ _ _))
  refine ⟨_, htb, by kernel_rfl, fun _ => rfl, ?_⟩
  repeat (first | ((with_reducible show W _ _ _ _ _ _); first | refine W_seq ?_ | refine W_block ?_ | refine W_regionB hX 2 rfl ?_ | refine W_cond ?_ | refine W_skip ?_ | refine W_exit ?_ | refine W_ret ?_) | ((fail_if_success (with_reducible show W _ _ _ _ _ _)); show W _ _ _ _ _ _) | refine andA ?_ | refine condT ?_ | refine condF ?_ | refine exB ?_ | refine exL ?_ | refine Exists.intro _ (And.intro rfl ?_) | refine Exists.intro _ (And.intro (get_mapN (by assumption)) ?_) | ((fail_if_success (with_reducible show LoopEnd _ _ _ _ _ _ _)); show LoopEnd _ _ _ _ _ _ _) | ((fail_if_success (with_reducible show JoinEnd _ _ _ _ _)); show JoinEnd _ _ _ _ _) | ((fail_if_success (with_reducible show JoinG _ _ _ _ _)); show JoinG _ _ _ _ _))
  refine W_regionN hX 1 ?_
  refine ⟨[], _, _, _, _, ⟨htn, by kernel_rfl, rfl, rfl, rfl, by decide, rfl, Nat.zero_le _, rfl, balln, ballc trivial (ballc trivial (ballc (cN _) balln)), rfl, fun j hj => (by cases hj), fun j hj => (by cases hj)⟩, ?_⟩
  repeat (first | ((with_reducible show W _ _ _ _ _ _); first | refine W_seq ?_ | refine W_block ?_ | refine W_region hX ?_ | refine W_cond ?_ | refine W_skip ?_ | refine W_exit ?_ | refine W_ret ?_) | ((fail_if_success (with_reducible show W _ _ _ _ _ _)); show W _ _ _ _ _ _) | refine andA ?_ | refine condT ?_ | refine condF ?_ | refine exB ?_ | refine exL ?_ | refine Exists.intro _ (And.intro rfl ?_) | refine Exists.intro _ (And.intro (get_mapN (by assumption)) ?_) | ((fail_if_success (with_reducible show LoopEnd _ _ _ _ _ _ _)); show LoopEnd _ _ _ _ _ _ _) | ((fail_if_success (with_reducible show JoinEnd _ _ _ _ _)); show JoinEnd _ _ _ _ _) | ((fail_if_success (with_reducible show JoinG _ _ _ _ _)); show JoinG _ _ _ _ _))
  refine W_loop (fun k : Nat => k ≤ a.length) (fun k => a.length - k) (fun k => ⟨[(2, .v (.int .i64 i)), (7, .row 12 (a.map encNode)), (8, .row 12 (b.map encNode)), (9, .own 2 12 0 a.length), (24, .v (.int .i64 a.length)), (25, .v (.int .i64 k))], [.none, .none, .row 29 12 (((a.take k).map (bumpN p) ++ a.drop k).map encNode)]⟩) 0 (Nat.zero_le _) (Drops.to [2, 7, 8, 9, 24, 25] rfl) ?_
  intro k hk
  repeat (first | ((with_reducible show W _ _ _ _ _ _); first | refine W_seq ?_ | refine W_block ?_ | refine W_region hX ?_ | refine W_cond ?_ | refine W_skip ?_ | refine W_exit ?_ | refine W_ret ?_) | ((fail_if_success (with_reducible show W _ _ _ _ _ _)); show W _ _ _ _ _ _) | refine andA ?_ | refine condT ?_ | refine condF ?_ | refine exB ?_ | refine exL ?_ | refine Exists.intro _ (And.intro rfl ?_) | refine Exists.intro _ (And.intro (get_mapN (by assumption)) ?_) | ((fail_if_success (with_reducible show LoopEnd _ _ _ _ _ _ _)); show LoopEnd _ _ _ _ _ _ _) | ((fail_if_success (with_reducible show JoinEnd _ _ _ _ _)); show JoinEnd _ _ _ _ _) | ((fail_if_success (with_reducible show JoinG _ _ _ _ _)); show JoinG _ _ _ _ _))
  refine condB_intro (fun h1 => ?_) (fun h1 => ?_)
  · have e1 : (k : Int) < (a.length : Int) := of_decide_eq_true h1
    obtain ⟨x, hx⟩ := get_lt (l := a) (k := k) (by omega)
    have hxs := hsame x (List.mem_of_getElem? hx)
    obtain ⟨g1, g2⟩ := bump_take p hx
    have hcell : ∀ (t : List NodeT), ∀ l ∈ t.map encNode, l.length = 12 := fun t l hl => by obtain ⟨x, _, rfl⟩ := List.mem_map.1 hl; rfl
    repeat (first | ((with_reducible show W _ _ _ _ _ _); first | refine W_seq ?_ | refine W_block ?_ | refine W_region hX ?_ | refine W_cond ?_ | refine W_skip ?_ | refine W_exit ?_ | refine W_ret ?_) | ((fail_if_success (with_reducible show W _ _ _ _ _ _)); show W _ _ _ _ _ _) | refine andA ?_ | refine condT ?_ | refine condF ?_ | refine exB ?_ | refine exL ?_ | refine Exists.intro _ (And.intro rfl ?_) | refine Exists.intro _ (And.intro (get_mapN (by assumption)) ?_) | ((fail_if_success (with_reducible show LoopEnd _ _ _ _ _ _ _)); show LoopEnd _ _ _ _ _ _ _) | ((fail_if_success (with_reducible show JoinEnd _ _ _ _ _)); show JoinEnd _ _ _ _ _) | ((fail_if_success (with_reducible show JoinG _ _ _ _ _)); show JoinG _ _ _ _ _))
    refine ⟨k, 2, encNode x, by omega, get_mapN g1, hcell _, ?_⟩
    repeat (first | ((with_reducible show W _ _ _ _ _ _); first | refine W_seq ?_ | refine W_block ?_ | refine W_region hX ?_ | refine W_cond ?_ | refine W_skip ?_ | refine W_exit ?_ | refine W_ret ?_) | ((fail_if_success (with_reducible show W _ _ _ _ _ _)); show W _ _ _ _ _ _) | refine andA ?_ | refine condT ?_ | refine condF ?_ | refine exB ?_ | refine exL ?_ | refine Exists.intro _ (And.intro rfl ?_) | refine Exists.intro _ (And.intro (get_mapN (by assumption)) ?_) | ((fail_if_success (with_reducible show LoopEnd _ _ _ _ _ _ _)); show LoopEnd _ _ _ _ _ _ _) | ((fail_if_success (with_reducible show JoinEnd _ _ _ _ _)); show JoinEnd _ _ _ _ _) | ((fail_if_success (with_reducible show JoinG _ _ _ _ _)); show JoinG _ _ _ _ _))
    refine condB_intro (fun h2 => ?_) (fun h2 => ?_)
    · have e2 := of_decide_eq_true h2
      have hbx : bumpN p x = { x with same := x.same + (1 + p) } := if_pos e2
      repeat (first | ((with_reducible show W _ _ _ _ _ _); first | refine W_seq ?_ | refine W_block ?_ | refine W_region hX ?_ | refine W_cond ?_ | refine W_skip ?_ | refine W_exit ?_ | refine W_ret ?_) | ((fail_if_success (with_reducible show W _ _ _ _ _ _)); show W _ _ _ _ _ _) | refine andA ?_ | refine condT ?_ | refine condF ?_ | refine exB ?_ | refine exL ?_ | refine Exists.intro _ (And.intro rfl ?_) | refine Exists.intro _ (And.intro (get_mapN (by assumption)) ?_) | ((fail_if_success (with_reducible show LoopEnd _ _ _ _ _ _ _)); show LoopEnd _ _ _ _ _ _ _) | ((fail_if_success (with_reducible show JoinEnd _ _ _ _ _)); show JoinEnd _ _ _ _ _) | ((fail_if_success (with_reducible show JoinG _ _ _ _ _)); show JoinG _ _ _ _ _))
      refine W_drawR hX (n := 12) (follows_mixed Tryd.checked) 12 [.own 2 12 0 a.length, .v (.int .i64 k), .ptr 2 ((0 + k) * 12), .ptr 2 ((0 + k) * 12 + 2), .v (.int .i64 x.same), .v (.int .i64 i), .v (.int .i64 p), .v (.int .i64 (1 + p)), .v (.int .i64 (x.same + (1 + p))), .ptr 2 ((0 + k) * 12), .ptr 2 ((0 + k) * 12 + 2), .junk] [[.none, .none, .row 29 12 (((a.take k).map (bumpN p) ++ a.drop k).map encNode)], [.none, .none, .row 29 12 (((a.take (k + 1)).map (bumpN p) ++ a.drop (k + 1)).map encNode)]] [11] [[0], [0], [0], [0], [0], [0], [0], [0], [0], [0], [0], []] (ws := [[], [], [(0, 34), (1, 35)], [(2, 36)], [(3, 37)], [], [(5, 39)], [(6, 40)], [(4, 38), (7, 41)], [(0, 34), (1, 35), (2, 36), (3, 37), (4, 38), (5, 39), (6, 40), (7, 41), (8, 42)], [(0, 34), (1, 35), (2, 36), (3, 37), (4, 38), (5, 39), (6, 40), (7, 41), (8, 42), (9, 43)], [(0, 34), (1, 35), (2, 36), (3, 37), (4, 38), (5, 39), (6, 40), (7, 41), (8, 42), (10, 44)]]) (ds := [34, 35, 36, 37, 38, 39, 40, 41, 42, 43, 44]) (wa := [(0, 34), (1, 35), (2, 36), (3, 37), (4, 38), (5, 39), (6, 40), (7, 41), (8, 42), (9, 43), (10, 44)]) ⟨by kernel_rfl, by kernel_rfl, by kernel_rfl, by kernel_rfl, by decide, by kernel_rfl, by kernel_rfl, by kernel_rfl, by decide, by kernel_rfl, by kernel_rfl⟩ rfl rfl rfl rfl rfl ?_ ?_
      · refine ⟨⟨rfl, True.intro⟩, ⟨rfl, True.intro⟩, ⟨⟨k, rfl, by omega, rfl⟩, True.intro⟩, ⟨rfl, True.intro⟩, ⟨⟨k, 2, encNode x, by omega, get_mapN g1, hcell _, rfl⟩, True.intro⟩, ⟨rfl, True.intro⟩, ⟨⟨_, hpick, by kernel_rfl, fun _ => rfl, rfl⟩, True.intro⟩, ⟨⟨?_, rfl⟩, True.intro⟩, ⟨⟨?_, rfl⟩, True.intro⟩, ⟨⟨k, rfl, by omega, rfl⟩, True.intro⟩, ⟨rfl, True.intro⟩, ⟨k, 2, encNode x, (((a.take (k + 1)).map (bumpN p) ++ a.drop (k + 1)).map encNode), by omega, get_mapN g1, by decide, by rw [← g2, hbx, List.map_set]; rfl, rfl⟩, True.intro⟩
        · omega
        · omega
      repeat (first | ((with_reducible show W _ _ _ _ _ _); first | refine W_seq ?_ | refine W_block ?_ | refine W_region hX ?_ | refine W_cond ?_ | refine W_skip ?_ | refine W_exit ?_ | refine W_ret ?_) | ((fail_if_success (with_reducible show W _ _ _ _ _ _)); show W _ _ _ _ _ _) | refine andA ?_ | refine condT ?_ | refine condF ?_ | refine exB ?_ | refine exL ?_ | refine Exists.intro _ (And.intro rfl ?_) | refine Exists.intro _ (And.intro (get_mapN (by assumption)) ?_) | ((fail_if_success (with_reducible show LoopEnd _ _ _ _ _ _ _)); show LoopEnd _ _ _ _ _ _ _) | ((fail_if_success (with_reducible show JoinEnd _ _ _ _ _)); show JoinEnd _ _ _ _ _) | ((fail_if_success (with_reducible show JoinG _ _ _ _ _)); show JoinG _ _ _ _ _))
      exact LoopEnd_fin (k + 1) [2, 7, 8, 9, 24, 25] 3 hX (by omega) (by omega) rfl rfl rfl rfl ⟨trivial, trivial, cN _, trivial⟩
    · have e2 := of_decide_eq_false h2
      have hbx : bumpN p x = x := if_neg e2
      have hself : ((a.take k).map (bumpN p) ++ a.drop k) = (a.take (k + 1)).map (bumpN p) ++ a.drop (k + 1) := by
        rw [← g2, hbx]
        obtain ⟨q1, q2⟩ := List.getElem?_eq_some_iff.1 g1
        rw [← q2, List.set_getElem_self]
      repeat (first | ((with_reducible show W _ _ _ _ _ _); first | refine W_seq ?_ | refine W_block ?_ | refine W_region hX ?_ | refine W_cond ?_ | refine W_skip ?_ | refine W_exit ?_ | refine W_ret ?_) | ((fail_if_success (with_reducible show W _ _ _ _ _ _)); show W _ _ _ _ _ _) | refine andA ?_ | refine condT ?_ | refine condF ?_ | refine exB ?_ | refine exL ?_ | refine Exists.intro _ (And.intro rfl ?_) | refine Exists.intro _ (And.intro (get_mapN (by assumption)) ?_) | ((fail_if_success (with_reducible show LoopEnd _ _ _ _ _ _ _)); show LoopEnd _ _ _ _ _ _ _) | ((fail_if_success (with_reducible show JoinEnd _ _ _ _ _)); show JoinEnd _ _ _ _ _) | ((fail_if_success (with_reducible show JoinG _ _ _ _ _)); show JoinG _ _ _ _ _))
      exact LoopEnd_fin (k + 1) [2, 7, 8, 9, 24, 25] 3 hX (by omega) (by omega) rfl (by rw [← hself]; rfl) rfl rfl ⟨trivial, trivial, cN _, trivial⟩
  · have e1 : ¬ (k : Int) < (a.length : Int) := of_decide_eq_false h1
    obtain rfl : k = a.length := by omega
    rw [List.take_length, List.drop_length, List.append_nil]
    repeat (first | ((with_reducible show W _ _ _ _ _ _); first | refine W_seq ?_ | refine W_block ?_ | refine W_region hX ?_ | refine W_cond ?_ | refine W_skip ?_ | refine W_exit ?_ | refine W_ret ?_) | ((fail_if_success (with_reducible show W _ _ _ _ _ _)); show W _ _ _ _ _ _) | refine andA ?_ | refine condT ?_ | refine condF ?_ | refine exB ?_ | refine exL ?_ | refine Exists.intro _ (And.intro rfl ?_) | refine Exists.intro _ (And.intro (get_mapN (by assumption)) ?_) | ((fail_if_success (with_reducible show LoopEnd _ _ _ _ _ _ _)); show LoopEnd _ _ _ _ _ _ _) | ((fail_if_success (with_reducible show JoinEnd _ _ _ _ _)); show JoinEnd _ _ _ _ _) | ((fail_if_success (with_reducible show JoinG _ _ _ _ _)); show JoinG _ _ _ _ _))
    refine .inl ⟨_, hac, by kernel_rfl, ⟨⟨True.intro, ⟨by rw [List.length_map, List.length_map], cN _⟩, True.intro⟩, True.intro⟩, ?_⟩
    repeat (first | ((with_reducible show W _ _ _ _ _ _); first | refine W_seq ?_ | refine W_block ?_ | refine W_region hX ?_ | refine W_cond ?_ | refine W_skip ?_ | refine W_exit ?_ | refine W_ret ?_) | ((fail_if_success (with_reducible show W _ _ _ _ _ _)); show W _ _ _ _ _ _) | refine andA ?_ | refine condT ?_ | refine condF ?_ | refine exB ?_ | refine exL ?_ | refine Exists.intro _ (And.intro rfl ?_) | refine Exists.intro _ (And.intro (get_mapN (by assumption)) ?_) | ((fail_if_success (with_reducible show LoopEnd _ _ _ _ _ _ _)); show LoopEnd _ _ _ _ _ _ _) | ((fail_if_success (with_reducible show JoinEnd _ _ _ _ _)); show JoinEnd _ _ _ _ _) | ((fail_if_success (with_reducible show JoinG _ _ _ _ _)); show JoinG _ _ _ _ _))
    refine ⟨_, hab, by kernel_rfl, fun _ => rfl, ?_⟩
    repeat (first | ((with_reducible show W _ _ _ _ _ _); first | refine W_seq ?_ | refine W_block ?_ | refine W_region hX ?_ | refine W_cond ?_ | refine W_skip ?_ | refine W_exit ?_ | refine W_ret ?_) | ((fail_if_success (with_reducible show W _ _ _ _ _ _)); show W _ _ _ _ _ _) | refine andA ?_ | refine condT ?_ | refine condF ?_ | refine exB ?_ | refine exL ?_ | refine Exists.intro _ (And.intro rfl ?_) | refine Exists.intro _ (And.intro (get_mapN (by assumption)) ?_) | ((fail_if_success (with_reducible show LoopEnd _ _ _ _ _ _ _)); show LoopEnd _ _ _ _ _ _ _) | ((fail_if_success (with_reducible show JoinEnd _ _ _ _ _)); show JoinEnd _ _ _ _ _) | ((fail_if_success (with_reducible show JoinG _ _ _ _ _)); show JoinG _ _ _ _ _))
    refine ⟨_, hsm, by kernel_rfl, fun _ => rfl, ?_⟩
    repeat (first | ((with_reducible show W _ _ _ _ _ _); first | refine W_seq ?_ | refine W_block ?_ | refine W_region hX ?_ | refine W_cond ?_ | refine W_skip ?_ | refine W_exit ?_ | refine W_ret ?_) | ((fail_if_success (with_reducible show W _ _ _ _ _ _)); show W _ _ _ _ _ _) | refine andA ?_ | refine condT ?_ | refine condF ?_ | refine exB ?_ | refine exL ?_ | refine Exists.intro _ (And.intro rfl ?_) | refine Exists.intro _ (And.intro (get_mapN (by assumption)) ?_) | ((fail_if_success (with_reducible show LoopEnd _ _ _ _ _ _ _)); show LoopEnd _ _ _ _ _ _ _) | ((fail_if_success (with_reducible show JoinEnd _ _ _ _ _)); show JoinEnd _ _ _ _ _) | ((fail_if_success (with_reducible show JoinG _ _ _ _ _)); show JoinG _ _ _ _ _))
    refine ⟨_, hsa, by kernel_rfl, fun _ => rfl, ?_⟩
    repeat (first | ((with_reducible show W _ _ _ _ _ _); first | refine W_seq ?_ | refine W_block ?_ | refine W_region hX ?_ | refine W_cond ?_ | refine W_skip ?_ | refine W_exit ?_ | refine W_ret ?_) | ((fail_if_success (with_reducible show W _ _ _ _ _ _)); show W _ _ _ _ _ _) | refine andA ?_ | refine condT ?_ | refine condF ?_ | refine exB ?_ | refine exL ?_ | refine Exists.intro _ (And.intro rfl ?_) | refine Exists.intro _ (And.intro (get_mapN (by assumption)) ?_) | ((fail_if_success (with_reducible show LoopEnd _ _ _ _ _ _ _)); show LoopEnd _ _ _ _ _ _ _) | ((fail_if_success (with_reducible show JoinEnd _ _ _ _ _)); show JoinEnd _ _ _ _ _) | ((fail_if_success (with_reducible show JoinG _ _ _ _ _)); show JoinG _ _ _ _ _))
    refine ⟨_, hal, by kernel_rfl, fun _ => rfl, ?_⟩
    repeat (first | ((with_reducible show W _ _ _ _ _ _); first | refine W_seq ?_ | refine W_block ?_ | refine W_region hX ?_ | refine W_cond ?_ | refine W_skip ?_ | refine W_exit ?_ | refine W_ret ?_) | ((fail_if_success (with_reducible show W _ _ _ _ _ _)); show W _ _ _ _ _ _) | refine andA ?_ | refine condT ?_ | refine condF ?_ | refine exB ?_ | refine exL ?_ | refine Exists.intro _ (And.intro rfl ?_) | refine Exists.intro _ (And.intro (get_mapN (by assumption)) ?_) | ((fail_if_success (with_reducible show LoopEnd _ _ _ _ _ _ _)); show LoopEnd _ _ _ _ _ _ _) | ((fail_if_success (with_reducible show JoinEnd _ _ _ _ _)); show JoinEnd _ _ _ _ _) | ((fail_if_success (with_reducible show JoinG _ _ _ _ _)); show JoinG _ _ _ _ _))
    have e9 : (q == q) = true := beq_self_eq_true q
    rw [e9]
    rfl
end Go.Proofs.YtaogbdfmoeolnaaDoor.Abs
