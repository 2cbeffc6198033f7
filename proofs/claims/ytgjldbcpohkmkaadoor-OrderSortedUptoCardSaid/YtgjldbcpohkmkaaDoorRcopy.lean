/- Copies of trees. -/
import Derived.Test.YtgjldbcpohkmkaaDoorRtree3
namespace Go.Proofs.YtgjldbcpohkmkaaDoor.Abs
open Go.RowKit Go.MapKept
set_option linter.unusedVariables false
set_option linter.unusedSimpArgs false
set_option maxRecDepth 100000
set_option maxHeartbeats 4000000
theorem cN (t : List NodeT) : ClosedE (t.map encNode) := ClosedE_map (fun _ _ => rfl) t
/-- A copy that will be written to. -/
theorem copy_ac (xs : List NodeT) (hl : xs.length ≤ 1000000) (hd : ∀ x ∈ xs, x.data.size ≤ 1000000) : ACB CX 35 [.row 12 (xs.map encNode)] [] (.own 0 12 0 xs.length) [.row 40 12 (xs.map encNode)] := by
  refine ACB_walk ⟨TB, 25, 0, [], []⟩ (fn := Tryd.f35) TB_ok Tryd.func35 rfl rfl rfl rfl (fun i h => by cases h) rfl ?_; intro E hX
  refine goT ?_
  refine .inl (And.intro rfl (And.intro (by omega) ?_))
  refine goT ?_
  refine W_loop (fun k : Nat => k ≤ xs.length) (fun k => xs.length - k) (fun k => ⟨[(9, .row 12 (xs.map encNode)), (10, .v (.int .i64 xs.length)), (11, .v (.int .i64 k)), (3, .own 0 12 0 k)], [.row 40 12 ((xs.take k).map encNode)]⟩) 0 (Nat.zero_le _) (Drops.to [9, 10, 11, 3] rfl) ?_
  intro k hk
  refine goT ?_
  refine condB_intro (fun h => ?_) (fun h => ?_)
  · have h := of_decide_eq_true h
    obtain ⟨x, hx⟩ := get_lt (l := xs) (k := k) (by omega)
    have hdx := hd x (List.mem_of_getElem? hx)
    refine goT ?_
    refine ⟨k + 1, (xs.take (k + 1)).map encNode, rfl, by rw [take_snoc hx, List.map_append]; rfl, ?_⟩
    refine goT ?_
    exact LoopEnd_fin (k + 1) [9, 10, 11, 3] 1 hX (by omega) (by omega) rfl rfl rfl rfl ⟨cN _, trivial⟩
  · have h := of_decide_eq_false h
    obtain rfl : k = xs.length := by omega
    refine goT ?_
    refine ⟨[], ?_⟩
    rw [List.take_length]
    rfl
/-- A copy that is only read. -/
theorem copyR_ac (xs : List NodeT) (hl : xs.length ≤ 1000000) (hd : ∀ x ∈ xs, x.data.size ≤ 1000000) : AC CX 35 [.row 12 (xs.map encNode)] (.row 12 (xs.map encNode)) := by
  refine AC_walk ⟨TB, 25, 0, [], []⟩ (fn := Tryd.f35) TB_ok Tryd.func35 rfl rfl rfl rfl rfl (fun _ => rfl) (fun _ => rfl) ?_; intro E hna hX
  refine goT ?_
  refine .inl (And.intro rfl (And.intro (by omega) ?_))
  refine goT ?_
  refine W_loop (fun k : Nat => k ≤ xs.length) (fun k => xs.length - k) (fun k => ⟨[(9, .row 12 (xs.map encNode)), (10, .v (.int .i64 xs.length)), (11, .v (.int .i64 k)), (3, .own 0 12 0 k)], [.row 40 12 ((xs.take k).map encNode)]⟩) 0 (Nat.zero_le _) (Drops.to [9, 10, 11, 3] rfl) ?_
  intro k hk
  refine goT ?_
  refine condB_intro (fun h => ?_) (fun h => ?_)
  · have h := of_decide_eq_true h
    obtain ⟨x, hx⟩ := get_lt (l := xs) (k := k) (by omega)
    have hdx := hd x (List.mem_of_getElem? hx)
    refine goT ?_
    refine ⟨k + 1, (xs.take (k + 1)).map encNode, rfl, by rw [take_snoc hx, List.map_append]; rfl, ?_⟩
    refine goT ?_
    exact LoopEnd_fin (k + 1) [9, 10, 11, 3] 1 hX (by omega) (by omega) rfl rfl rfl rfl ⟨cN _, trivial⟩
  · have h := of_decide_eq_false h
    obtain rfl : k = xs.length := by omega
    repeat (first | ((with_reducible show W _ _ _ _ _ _); first | refine W_seq ?_ | refine W_block ?_ | refine W_region hX ?_ | refine W_cond ?_ | refine W_skip ?_ | refine W_exit ?_) | ((fail_if_success (with_reducible show W _ _ _ _ _ _)); show W _ _ _ _ _ _) | refine andA ?_ | refine condT ?_ | refine condF ?_ | refine exB ?_ | refine exL ?_ | refine Exists.intro _ (And.intro rfl ?_) | refine Exists.intro _ (And.intro (get_mapN (by assumption)) ?_) | ((fail_if_success (with_reducible show LoopEnd _ _ _ _ _ _ _)); show LoopEnd _ _ _ _ _ _ _) | ((fail_if_success (with_reducible show JoinEnd _ _ _ _ _)); show JoinEnd _ _ _ _ _) | ((fail_if_success (with_reducible show JoinG _ _ _ _ _)); show JoinG _ _ _ _ _))
    refine W_freeze hna 0 [2] rfl (fun t ht => by simp at ht; subst ht; rfl) (by rw [List.length_map, List.length_take]; omega) (cN _) True.intro rfl ?_
    refine goT ?_
    rw [List.take_length]
    rfl
end Go.Proofs.YtgjldbcpohkmkaaDoor.Abs
