/- Told anew. -/
import Derived.Test.YtaogbdfmoeolnaaDoorRnames
import Derived.Test.YtaogbdfmoeolnaaDoorDr7
namespace Go.Proofs.YtaogbdfmoeolnaaDoor.Abs
open Go.RowKit Go.MapKept
set_option linter.unusedVariables false
set_option linter.unusedSimpArgs false
set_option maxRecDepth 100000
set_option maxHeartbeats 4000000
def anewN (L : List Int) (x : NodeT) (q : Int) : NodeT := { x with same := if countL L q > 1 then q + 1 else 0 }
def anewL (t : List NodeT) : List NodeT := List.zipWith (anewN (firstsL t 0 []).1) t (firstsL t 0 []).1
theorem anew_len (t : List NodeT) : (anewL t).length = t.length := by
  unfold anewL
  rw [List.length_zipWith, firsts_len, Nat.min_self]
theorem mix_at {A t : List NodeT} {k : Nat} (hl : A.length = t.length) {x : NodeT} (hx : t[k]? = some x) : (A.take k ++ t.drop k)[k]? = some x := by
  have hk := (List.getElem?_eq_some_iff.1 hx).1
  rw [List.getElem?_append_right (by rw [List.length_take]; omega), List.length_take, Nat.min_eq_left (by omega), Nat.sub_self, List.getElem?_drop, Nat.add_zero, hx]
theorem mix_set {A t : List NodeT} {k : Nat} (hl : A.length = t.length) {x : NodeT} (hx : t[k]? = some x) (y : NodeT) : (A.take k ++ t.drop k).set k y = A.take k ++ y :: t.drop (k + 1) := by
  have hk := (List.getElem?_eq_some_iff.1 hx).1
  rw [List.set_append_right _ _ (by rw [List.length_take]; omega), List.length_take, Nat.min_eq_left (by omega), Nat.sub_self, drop_at hx]
  rfl
theorem mix_next {A t : List NodeT} {k : Nat} {y : NodeT} (hy : A[k]? = some y) : A.take k ++ y :: t.drop (k + 1) = A.take (k + 1) ++ t.drop (k + 1) := by
  rw [take_snoc hy, List.append_assoc]; rfl
theorem mix_setat {A r : List NodeT} {k : Nat} (hk : k ≤ A.length) (y z : NodeT) : (A.take k ++ y :: r)[k]? = some y ∧ (A.take k ++ y :: r).set k z = A.take k ++ z :: r := by
  have hl : (A.take k).length = k := by rw [List.length_take]; omega
  constructor
  · rw [List.getElem?_append_right (by omega), hl, Nat.sub_self]; rfl
  · rw [List.set_append_right _ _ (by omega), hl, Nat.sub_self]; rfl
theorem anew_ac (xs : List NodeT) (hg : ∀ n ∈ xs, NodeGood n) (hl : xs.length ≤ 1000000) (hc : chkF xs = 0) (hq : ∀ q ∈ (firstsL xs 0 []).1, 0 ≤ q ∧ q ≤ 1000000) : AC CX 32 [.row 12 (xs.map encNode)] (.tup [.row 12 ((anewL xs).map encNode), .v (.int .i64 0)]) := by
  have hf := firsts_ac xs hg hl hc
  have hn := linkNames_ac xs hg hl hc
  have hlen := firsts_len xs 0 []
  have hal := anew_len xs
  have hcop := copy_ac xs hl (fun x hx => by have := (hg x hx).data; omega)
  unfold anewL at hal ⊢
  generalize (firstsL xs 0 []).1 = L at hf hlen hn hal hq
  have hcell : ∀ (t : List NodeT), ∀ l ∈ t.map encNode, l.length = 12 := fun t l hl => by obtain ⟨x, _, rfl⟩ := List.mem_map.1 hl; rfl
  obtain ⟨A, hA⟩ : ∃ A, A = List.zipWith (anewN L) xs L := ⟨_, rfl⟩
  rw [← hA] at hal ⊢
  refine AC_walk ⟨TB, 50, 0, [], []⟩ (fn := Tryd.f32) TB_ok Tryd.func32 rfl rfl rfl rfl rfl (fun _ => rfl) (fun _ => rfl) ?_; intro E hna hX
  repeat (first | ((with_reducible show W _ _ _ _ _ _); first | refine W_seq ?_ | refine W_block ?_ | refine W_region hX ?_ | refine W_cond ?_ | refine W_skip ?_ | refine W_exit ?_ | refine W_ret ?_) | ((fail_if_success (with_reducible show W _ _ _ _ _ _)); show W _ _ _ _ _ _) | refine andA ?_ | refine condT ?_ | refine condF ?_ | refine exB ?_ | refine exL ?_ | refine Exists.intro _ (And.intro rfl ?_) | refine Exists.intro _ (And.intro (get_mapN (by assumption)) ?_) | ((fail_if_success (with_reducible show LoopEnd _ _ _ _ _ _ _)); show LoopEnd _ _ _ _ _ _ _) | ((fail_if_success (with_reducible show JoinEnd _ _ _ _ _)); show JoinEnd _ _ _ _ _) | ((fail_if_success (with_reducible show JoinG _ _ _ _ _)); show JoinG _ _ _ _ _))
  refine ⟨_, hf, by kernel_rfl, fun _ => rfl, ?_⟩
  repeat (first | ((with_reducible show W _ _ _ _ _ _); first | refine W_seq ?_ | refine W_block ?_ | refine W_region hX ?_ | refine W_cond ?_ | refine W_skip ?_ | refine W_exit ?_ | refine W_ret ?_) | ((fail_if_success (with_reducible show W _ _ _ _ _ _)); show W _ _ _ _ _ _) | refine andA ?_ | refine condT ?_ | refine condF ?_ | refine exB ?_ | refine exL ?_ | refine Exists.intro _ (And.intro rfl ?_) | refine Exists.intro _ (And.intro (get_mapN (by assumption)) ?_) | ((fail_if_success (with_reducible show LoopEnd _ _ _ _ _ _ _)); show LoopEnd _ _ _ _ _ _ _) | ((fail_if_success (with_reducible show JoinEnd _ _ _ _ _)); show JoinEnd _ _ _ _ _) | ((fail_if_success (with_reducible show JoinG _ _ _ _ _)); show JoinG _ _ _ _ _))
  refine ⟨_, hn, by kernel_rfl, fun _ => rfl, ?_⟩
  repeat (first | ((with_reducible show W _ _ _ _ _ _); first | refine W_seq ?_ | refine W_block ?_ | refine W_regionB hX 5 rfl ?_ | refine W_cond ?_ | refine W_skip ?_ | refine W_exit ?_ | refine W_ret ?_) | ((fail_if_success (with_reducible show W _ _ _ _ _ _)); show W _ _ _ _ _ _) | refine andA ?_ | refine condT ?_ | refine condF ?_ | refine exB ?_ | refine exL ?_ | refine Exists.intro _ (And.intro rfl ?_) | refine Exists.intro _ (And.intro (get_mapN (by assumption)) ?_) | ((fail_if_success (with_reducible show LoopEnd _ _ _ _ _ _ _)); show LoopEnd _ _ _ _ _ _ _) | ((fail_if_success (with_reducible show JoinEnd _ _ _ _ _)); show JoinEnd _ _ _ _ _) | ((fail_if_success (with_reducible show JoinG _ _ _ _ _)); show JoinG _ _ _ _ _))
  refine W_regionN hX 1 ?_
  refine ⟨[], _, _, _, _, ⟨hcop, by kernel_rfl, rfl, rfl, rfl, by decide, rfl, Nat.zero_le _, rfl, balln, ballc (cN _) balln, rfl, fun j hj => (by cases hj), fun j hj => (by cases hj)⟩, ?_⟩
  repeat (first | ((with_reducible show W _ _ _ _ _ _); first | refine W_seq ?_ | refine W_block ?_ | refine W_region hX ?_ | refine W_cond ?_ | refine W_skip ?_ | refine W_exit ?_ | refine W_ret ?_) | ((fail_if_success (with_reducible show W _ _ _ _ _ _)); show W _ _ _ _ _ _) | refine andA ?_ | refine condT ?_ | refine condF ?_ | refine exB ?_ | refine exL ?_ | refine Exists.intro _ (And.intro rfl ?_) | refine Exists.intro _ (And.intro (get_mapN (by assumption)) ?_) | ((fail_if_success (with_reducible show LoopEnd _ _ _ _ _ _ _)); show LoopEnd _ _ _ _ _ _ _) | ((fail_if_success (with_reducible show JoinEnd _ _ _ _ _)); show JoinEnd _ _ _ _ _) | ((fail_if_success (with_reducible show JoinG _ _ _ _ _)); show JoinG _ _ _ _ _))
  refine W_loop (fun k : Nat => k ≤ xs.length) (fun k => xs.length - k) (fun k => ⟨[(4, .row 1 (L.map encI)), (6, .row 1 ((namesL L).map encI)), (8, .own 0 12 0 xs.length), (26, .v (.int .i64 xs.length)), (27, .v (.int .i64 k))], [.row 29 12 ((A.take k ++ xs.drop k).map encNode)]⟩) 0 (Nat.zero_le _) (Drops.to [4, 6, 8, 26, 27] rfl) ?_
  intro k hk
  repeat (first | ((with_reducible show W _ _ _ _ _ _); first | refine W_seq ?_ | refine W_block ?_ | refine W_region hX ?_ | refine W_cond ?_ | refine W_skip ?_ | refine W_exit ?_ | refine W_ret ?_) | ((fail_if_success (with_reducible show W _ _ _ _ _ _)); show W _ _ _ _ _ _) | refine andA ?_ | refine condT ?_ | refine condF ?_ | refine exB ?_ | refine exL ?_ | refine Exists.intro _ (And.intro rfl ?_) | refine Exists.intro _ (And.intro (get_mapN (by assumption)) ?_) | ((fail_if_success (with_reducible show LoopEnd _ _ _ _ _ _ _)); show LoopEnd _ _ _ _ _ _ _) | ((fail_if_success (with_reducible show JoinEnd _ _ _ _ _)); show JoinEnd _ _ _ _ _) | ((fail_if_success (with_reducible show JoinG _ _ _ _ _)); show JoinG _ _ _ _ _))
  refine condB_intro (fun h1 => ?_) (fun h1 => ?_)
  · have e1 : (k : Int) < (xs.length : Int) := of_decide_eq_true h1
    obtain ⟨x, hx⟩ := get_lt (l := xs) (k := k) (by omega)
    obtain ⟨q, hLq⟩ := get_lt (l := L) (k := k) (by omega)
    have hql := hq q (List.mem_of_getElem? hLq)
    have hNq : (namesL L)[k]? = some (countL L q) := by unfold namesL; rw [List.getElem?_map, hLq]; rfl
    have hAq : A[k]? = some (anewN L x q) := by rw [hA, List.getElem?_zipWith, hx, hLq]
    have hat := mix_at (A := A) hal hx
    have hst := mix_set (A := A) hal hx { x with same := 0 }
    obtain ⟨hat2, hst2⟩ := mix_setat (A := A) (r := xs.drop (k + 1)) (k := k) (by omega) { x with same := 0 } { x with same := q + 1 }
    have hnx := mix_next (t := xs) hAq
    repeat (first | ((with_reducible show W _ _ _ _ _ _); first | refine W_seq ?_ | refine W_block ?_ | refine W_region hX ?_ | refine W_cond ?_ | refine W_skip ?_ | refine W_exit ?_ | refine W_ret ?_) | ((fail_if_success (with_reducible show W _ _ _ _ _ _)); show W _ _ _ _ _ _) | refine andA ?_ | refine condT ?_ | refine condF ?_ | refine exB ?_ | refine exL ?_ | refine Exists.intro _ (And.intro rfl ?_) | refine Exists.intro _ (And.intro (get_mapN (by assumption)) ?_) | ((fail_if_success (with_reducible show LoopEnd _ _ _ _ _ _ _)); show LoopEnd _ _ _ _ _ _ _) | ((fail_if_success (with_reducible show JoinEnd _ _ _ _ _)); show JoinEnd _ _ _ _ _) | ((fail_if_success (with_reducible show JoinG _ _ _ _ _)); show JoinG _ _ _ _ _))
    refine ⟨k, 2, encNode x, (A.take k ++ { x with same := 0 } :: xs.drop (k + 1)).map encNode, by omega, get_mapN hat, by decide, by rw [← hst, List.map_set]; rfl, ?_⟩
    repeat (first | ((with_reducible show W _ _ _ _ _ _); first | refine W_seq ?_ | refine W_block ?_ | refine W_region hX ?_ | refine W_cond ?_ | refine W_skip ?_ | refine W_exit ?_ | refine W_ret ?_) | ((fail_if_success (with_reducible show W _ _ _ _ _ _)); show W _ _ _ _ _ _) | refine andA ?_ | refine condT ?_ | refine condF ?_ | refine exB ?_ | refine exL ?_ | refine Exists.intro _ (And.intro rfl ?_) | refine Exists.intro _ (And.intro (get_mapN (by assumption)) ?_) | ((fail_if_success (with_reducible show LoopEnd _ _ _ _ _ _ _)); show LoopEnd _ _ _ _ _ _ _) | ((fail_if_success (with_reducible show JoinEnd _ _ _ _ _)); show JoinEnd _ _ _ _ _) | ((fail_if_success (with_reducible show JoinG _ _ _ _ _)); show JoinG _ _ _ _ _))
    refine condB_intro (fun h2 => ?_) (fun h2 => ?_)
    · have e2 := of_decide_eq_true h2
      have hxq : anewN L x q = { x with same := q + 1 } := by unfold anewN; rw [if_pos e2]
      repeat (first | ((with_reducible show W _ _ _ _ _ _); first | refine W_seq ?_ | refine W_block ?_ | refine W_region hX ?_ | refine W_cond ?_ | refine W_skip ?_ | refine W_exit ?_ | refine W_ret ?_) | ((fail_if_success (with_reducible show W _ _ _ _ _ _)); show W _ _ _ _ _ _) | refine andA ?_ | refine condT ?_ | refine condF ?_ | refine exB ?_ | refine exL ?_ | refine Exists.intro _ (And.intro rfl ?_) | refine Exists.intro _ (And.intro (get_mapN (by assumption)) ?_) | ((fail_if_success (with_reducible show LoopEnd _ _ _ _ _ _ _)); show LoopEnd _ _ _ _ _ _ _) | ((fail_if_success (with_reducible show JoinEnd _ _ _ _ _)); show JoinEnd _ _ _ _ _) | ((fail_if_success (with_reducible show JoinG _ _ _ _ _)); show JoinG _ _ _ _ _))
      refine ⟨k, 2, encNode { x with same := 0 }, (A.take k ++ { x with same := q + 1 } :: xs.drop (k + 1)).map encNode, by omega, get_mapN hat2, by decide, by rw [← hst2, List.map_set]; rfl, ?_⟩
      rw [← hxq, hnx]
      repeat (first | ((with_reducible show W _ _ _ _ _ _); first | refine W_seq ?_ | refine W_block ?_ | refine W_region hX ?_ | refine W_cond ?_ | refine W_skip ?_ | refine W_exit ?_ | refine W_ret ?_) | ((fail_if_success (with_reducible show W _ _ _ _ _ _)); show W _ _ _ _ _ _) | refine andA ?_ | refine condT ?_ | refine condF ?_ | refine exB ?_ | refine exL ?_ | refine Exists.intro _ (And.intro rfl ?_) | refine Exists.intro _ (And.intro (get_mapN (by assumption)) ?_) | ((fail_if_success (with_reducible show LoopEnd _ _ _ _ _ _ _)); show LoopEnd _ _ _ _ _ _ _) | ((fail_if_success (with_reducible show JoinEnd _ _ _ _ _)); show JoinEnd _ _ _ _ _) | ((fail_if_success (with_reducible show JoinG _ _ _ _ _)); show JoinG _ _ _ _ _))
      exact LoopEnd_fin (k + 1) [4, 6, 8, 26, 27] 1 hX (by omega) (by omega) rfl rfl rfl rfl ⟨cN _, trivial⟩
    · have e2 := of_decide_eq_false h2
      have hxq : anewN L x q = { x with same := 0 } := by unfold anewN; rw [if_neg e2]
      rw [← hxq, hnx]
      repeat (first | ((with_reducible show W _ _ _ _ _ _); first | refine W_seq ?_ | refine W_block ?_ | refine W_region hX ?_ | refine W_cond ?_ | refine W_skip ?_ | refine W_exit ?_ | refine W_ret ?_) | ((fail_if_success (with_reducible show W _ _ _ _ _ _)); show W _ _ _ _ _ _) | refine andA ?_ | refine condT ?_ | refine condF ?_ | refine exB ?_ | refine exL ?_ | refine Exists.intro _ (And.intro rfl ?_) | refine Exists.intro _ (And.intro (get_mapN (by assumption)) ?_) | ((fail_if_success (with_reducible show LoopEnd _ _ _ _ _ _ _)); show LoopEnd _ _ _ _ _ _ _) | ((fail_if_success (with_reducible show JoinEnd _ _ _ _ _)); show JoinEnd _ _ _ _ _) | ((fail_if_success (with_reducible show JoinG _ _ _ _ _)); show JoinG _ _ _ _ _))
      exact LoopEnd_fin (k + 1) [4, 6, 8, 26, 27] 1 hX (by omega) (by omega) rfl rfl rfl rfl ⟨cN _, trivial⟩
  · have e1 : ¬ (k : Int) < (xs.length : Int) := of_decide_eq_false h1
    obtain rfl : k = xs.length := by omega
    have hfin : A.take xs.length ++ xs.drop xs.length = A := by rw [List.drop_length, List.append_nil, ← hal, List.take_length]
    rw [hfin]
    repeat (first | ((with_reducible show W _ _ _ _ _ _); first | refine W_seq ?_ | refine W_block ?_ | refine W_region hX ?_ | refine W_cond ?_ | refine W_skip ?_ | refine W_exit ?_) | ((fail_if_success (with_reducible show W _ _ _ _ _ _)); show W _ _ _ _ _ _) | refine andA ?_ | refine condT ?_ | refine condF ?_ | refine exB ?_ | refine exL ?_ | refine Exists.intro _ (And.intro rfl ?_) | refine Exists.intro _ (And.intro (get_mapN (by assumption)) ?_) | ((fail_if_success (with_reducible show LoopEnd _ _ _ _ _ _ _)); show LoopEnd _ _ _ _ _ _ _) | ((fail_if_success (with_reducible show JoinEnd _ _ _ _ _)); show JoinEnd _ _ _ _ _) | ((fail_if_success (with_reducible show JoinG _ _ _ _ _)); show JoinG _ _ _ _ _))
    refine W_freeze hna 0 [2] rfl (fun t ht => by simp at ht; subst ht; rfl) (by rw [List.length_map, hal]) (cN _) True.intro rfl ?_
    repeat (first | ((with_reducible show W _ _ _ _ _ _); first | refine W_seq ?_ | refine W_block ?_ | refine W_region hX ?_ | refine W_cond ?_ | refine W_skip ?_ | refine W_exit ?_ | refine W_ret ?_) | ((fail_if_success (with_reducible show W _ _ _ _ _ _)); show W _ _ _ _ _ _) | refine andA ?_ | refine condT ?_ | refine condF ?_ | refine exB ?_ | refine exL ?_ | refine Exists.intro _ (And.intro rfl ?_) | refine Exists.intro _ (And.intro (get_mapN (by assumption)) ?_) | ((fail_if_success (with_reducible show LoopEnd _ _ _ _ _ _ _)); show LoopEnd _ _ _ _ _ _ _) | ((fail_if_success (with_reducible show JoinEnd _ _ _ _ _)); show JoinEnd _ _ _ _ _) | ((fail_if_success (with_reducible show JoinG _ _ _ _ _)); show JoinG _ _ _ _ _))
    rfl
end Go.Proofs.YtaogbdfmoeolnaaDoor.Abs
