/- filter.Run, walked. -/
import Derived.Test.YtdhikkdkjmeiiaaGreatDoorRfilt
import Derived.Test.YtdhikkdkjmeiiaaGreatDoorRcopy
namespace Go.Proofs.YtdhikkdkjmeiiaaGreatDoor.Abs
open Go.RowKit Go.MapKept
set_option linter.unusedVariables false
set_option linter.unusedSimpArgs false
set_option maxRecDepth 100000
set_option maxHeartbeats 4000000
theorem frun_ac (t : List NodeT) (l : List RuleT) (hT : TreeOk t) (ht : t.length ≤ 40) (hl : l.length ≤ 12) (ha : ∀ r ∈ l, okG r.2 = true) : AC CX 10 [.row 12 (t.map encNode), .row 2 (l.map encRule)] (.tup [.row 12 ((runL (takesF l) t).map encNode), .v (.int .i64 0)]) := by
  have hchk := check_ac t hT.node (by omega)
  rw [check_tree hT ht] at hchk
  have hfc := fcheck_ac l hl ha
  have hlen : ∀ k, (runL (takesF l) (t.take k)).length ≤ 40 := fun k => by
    have h1 := (runL_sub (takesF l) (t.take k)).length_le
    rw [List.length_take] at h1
    omega
  refine AC_walk ⟨TB, 58, 0, [], []⟩ (fn := Tryz.f10) TB_ok Tryz.func10 rfl rfl rfl rfl rfl (fun _ => rfl) (fun _ => rfl) ?_; intro E hna hX
  refine goT ?_
  refine ⟨_, hchk, by kernel_rfl, fun _ => rfl, ?_⟩
  refine goT ?_
  refine ⟨_, hfc, by kernel_rfl, fun _ => rfl, ?_⟩
  repeat (first | ((with_reducible show W _ _ _ _ _ _); first | refine W_seq ?_ | refine W_region hX ?_ | refine W_cond ?_ | refine W_skip ?_ | refine W_exit ?_ | refine W_ret ?_) | ((fail_if_success (with_reducible show W _ _ _ _ _ _)); show W _ _ _ _ _ _) | refine andA ?_ | refine condT ?_ | refine condF ?_ | refine exB ?_ | refine exL ?_ | refine Exists.intro _ (And.intro rfl ?_) | refine Exists.intro _ (And.intro (get_mapN (by assumption)) ?_) | ((fail_if_success (with_reducible show LoopEnd _ _ _ _ _ _ _)); show LoopEnd _ _ _ _ _ _ _) | ((fail_if_success (with_reducible show JoinEnd _ _ _ _ _)); show JoinEnd _ _ _ _ _) | ((fail_if_success (with_reducible show JoinG _ _ _ _ _)); show JoinG _ _ _ _ _))
  refine W_nilOwn hX 8 40 12 rfl rfl ?_
  refine goT ?_
  refine W_loop (fun k : Nat => k ≤ t.length) (fun k => t.length - k) (fun k => ⟨[(1, .row 2 (l.map encRule)), (8, .own 0 12 0 (runL (takesF l) (t.take k)).length), (23, .row 12 (t.map encNode)), (24, .v (.int .i64 t.length)), (25, .v (.int .i64 k))], [.row 40 12 ((runL (takesF l) (t.take k)).map encNode)]⟩) 0 (Nat.zero_le _) (Drops.to [1, 8, 23, 24, 25] rfl) ?_
  intro k hk
  refine goT ?_
  refine condB_intro (fun h1 => ?_) (fun h1 => ?_)
  · have e1 : (k : Int) < (t.length : Int) := of_decide_eq_true h1
    obtain ⟨x, hx⟩ := get_lt (l := t) (k := k) (by omega)
    have hxp := (hT.node x (List.mem_of_getElem? hx)).path
    have hxs := pathChk_size hxp
    have hup := up_ac x.path (by omega)
    have htk := takes_ac l x.path hl ha hxp
    have hlk := hlen k
    have hlk2 := hlen (k + 1)
    have hfi := find_ac (runL (takesF l) (t.take k)) (upF x.path) (by omega)
    have hrun : runL (takesF l) (t.take (k + 1)) = if runB (takesF l) (runL (takesF l) (t.take k)) x = true then runL (takesF l) (t.take k) ++ [x] else runL (takesF l) (t.take k) := runL_take hx
    have hrb : runB (takesF l) (runL (takesF l) (t.take k)) x = (takesF l x.path && (decide (upF x.path = ⟨#[]⟩) || !decide (findN (runL (takesF l) (t.take k)) (upF x.path) < 0))) := rfl
    rw [hrb] at hrun
    clear hrb hlen
    obtain ⟨out2, ho2⟩ : ∃ o, o = runL (takesF l) (t.take (k + 1)) := ⟨_, rfl⟩
    rw [← ho2] at hrun hlk2
    generalize runL (takesF l) (t.take k) = out at hrun hlk hfi
    cases htb : takesF l x.path
    · rw [htb] at htk hrun
      have ho : out2 = out := by simpa using hrun
      refine goT ?_
      refine ⟨_, hup, by kernel_rfl, fun _ => rfl, ?_⟩
      refine goT ?_
      refine .inl ⟨_, hfi, by kernel_rfl, ⟨⟨⟨List.length_map _, cN _⟩, True.intro, True.intro⟩, True.intro⟩, ?_⟩
      refine goT ?_
      refine ⟨_, htk, by kernel_rfl, fun _ => rfl, ?_⟩
      refine goT ?_
      exact LoopEnd_fin (k + 1) [1, 8, 23, 24, 25] 1 hX (by omega) (by omega) rfl (by rw [← ho2, ho]; rfl) rfl rfl ⟨cN _, trivial⟩
    rw [htb, Bool.true_and] at hrun
    rw [htb] at htk
    by_cases hu : upF x.path = ⟨#[]⟩
    · rw [decide_eq_true hu, Bool.true_or, if_pos rfl] at hrun
      have ho : out2 = out ++ [x] := hrun
      have hud : decide (upF x.path = ⟨#[]⟩) = true := decide_eq_true hu
      refine goT ?_
      refine ⟨_, hup, by kernel_rfl, fun _ => rfl, ?_⟩
      refine goT ?_
      refine .inl ⟨_, hfi, by kernel_rfl, ⟨⟨⟨List.length_map _, cN _⟩, True.intro, True.intro⟩, True.intro⟩, ?_⟩
      refine goT ?_
      refine ⟨_, htk, by kernel_rfl, fun _ => rfl, ?_⟩
      refine goT ?_
      refine ⟨_, hup, by kernel_rfl, fun _ => rfl, ?_⟩
      refine goT ?_
      refine ⟨(out ++ [x]).length, (out ++ [x]).map encNode, by rw [List.length_append]; rfl, by rw [List.map_append]; rfl, ?_⟩
      refine goT ?_
      exact LoopEnd_fin (k + 1) [1, 8, 23, 24, 25] 1 hX (by omega) (by omega) rfl (by rw [← ho2, ho]; rfl) rfl rfl ⟨cN _, trivial⟩
    rw [decide_eq_false hu, Bool.false_or] at hrun
    have hud : decide (upF x.path = ⟨#[]⟩) = false := decide_eq_false hu
    by_cases hf : findN out (upF x.path) < 0
    · rw [decide_eq_true hf] at hrun
      have ho : out2 = out := by simpa using hrun
      rw [if_pos hf, if_pos hf] at hfi
      refine goT ?_
      refine ⟨_, hup, by kernel_rfl, fun _ => rfl, ?_⟩
      refine goT ?_
      refine .inl ⟨_, hfi, by kernel_rfl, ⟨⟨⟨List.length_map _, cN _⟩, True.intro, True.intro⟩, True.intro⟩, ?_⟩
      refine goT ?_
      refine ⟨_, htk, by kernel_rfl, fun _ => rfl, ?_⟩
      refine goT ?_
      refine ⟨_, hup, by kernel_rfl, fun _ => rfl, ?_⟩
      refine goT ?_
      exact LoopEnd_fin (k + 1) [1, 8, 23, 24, 25] 1 hX (by omega) (by omega) rfl (by rw [← ho2, ho]; rfl) rfl rfl ⟨cN _, trivial⟩
    · rw [decide_eq_false hf] at hrun
      have ho : out2 = out ++ [x] := by simpa using hrun
      rw [if_neg hf, if_neg hf] at hfi
      refine goT ?_
      refine ⟨_, hup, by kernel_rfl, fun _ => rfl, ?_⟩
      refine goT ?_
      refine .inl ⟨_, hfi, by kernel_rfl, ⟨⟨⟨List.length_map _, cN _⟩, True.intro, True.intro⟩, True.intro⟩, ?_⟩
      refine goT ?_
      refine ⟨_, htk, by kernel_rfl, fun _ => rfl, ?_⟩
      refine goT ?_
      refine ⟨_, hup, by kernel_rfl, fun _ => rfl, ?_⟩
      refine goT ?_
      refine ⟨(out ++ [x]).length, (out ++ [x]).map encNode, by rw [List.length_append]; rfl, by rw [List.map_append]; rfl, ?_⟩
      refine goT ?_
      exact LoopEnd_fin (k + 1) [1, 8, 23, 24, 25] 1 hX (by omega) (by omega) rfl (by rw [← ho2, ho]; rfl) rfl rfl ⟨cN _, trivial⟩
  · have e1 : ¬ (k : Int) < (t.length : Int) := of_decide_eq_false h1
    obtain rfl : k = t.length := by omega
    have hlk := hlen t.length
    rw [List.take_length] at hlk ⊢
    have hr := run_tree hT (takesF l)
    generalize runL (takesF l) t = out at hlk hr
    have hcp := copyR_ac out (by omega) (fun x hx => by have := (hr.node x hx).data; omega)
    repeat (first | ((with_reducible show W _ _ _ _ _ _); first | refine W_seq ?_ | refine W_block ?_ | refine W_regionB hX 15 rfl ?_ | refine W_cond ?_ | refine W_skip ?_ | refine W_exit ?_ | refine W_ret ?_) | ((fail_if_success (with_reducible show W _ _ _ _ _ _)); show W _ _ _ _ _ _) | refine andA ?_ | refine condT ?_ | refine condF ?_ | refine exB ?_ | refine exL ?_ | refine Exists.intro _ (And.intro rfl ?_) | refine Exists.intro _ (And.intro (get_mapN (by assumption)) ?_) | ((fail_if_success (with_reducible show LoopEnd _ _ _ _ _ _ _)); show LoopEnd _ _ _ _ _ _ _) | ((fail_if_success (with_reducible show JoinEnd _ _ _ _ _)); show JoinEnd _ _ _ _ _) | ((fail_if_success (with_reducible show JoinG _ _ _ _ _)); show JoinG _ _ _ _ _))
    refine W_freeze hna 0 [8] rfl (fun t ht => by simp at ht; subst ht; rfl) (List.length_map _) (cN _) True.intro rfl ?_
    refine goT ?_
    refine ⟨_, hcp, by kernel_rfl, fun _ => rfl, ?_⟩
    refine goT ?_
    rfl
end Go.Proofs.YtdhikkdkjmeiiaaGreatDoor.Abs
