/- glob.split, walked. -/
import Derived.Test.YtdhikkdkjmeiiaaGreatDoorRglob
namespace Go.Proofs.YtdhikkdkjmeiiaaGreatDoor.Abs
open Go.RowKit Go.MapKept
set_option linter.unusedVariables false
set_option linter.unusedSimpArgs false
set_option maxRecDepth 100000
set_option maxHeartbeats 4000000
/-- How long the first sign is. -/
def tokN (s : ByteArray) : Nat := if byteAt s 0 = 91 then (endF s).toNat else 1
def gokB : Nat → ByteArray → Bool
  | 0, _ => true
  | f + 1, s => if s = ⟨#[]⟩ then true else (!decide (byteAt s 0 = 91) || !decide (endF s < 0)) && gokB f (s.extract (tokN s) s.size)
def splitF : Nat → ByteArray → List ByteArray
  | 0, _ => []
  | f + 1, s => if s = ⟨#[]⟩ then [] else s.extract 0 (tokN s) :: splitF f (s.extract (tokN s) s.size)
def splitL (s : ByteArray) : List ByteArray := splitF s.size s
theorem size_pos {s : ByteArray} (h : s ≠ ⟨#[]⟩) : 1 ≤ s.size := by
  rcases Nat.eq_zero_or_pos s.size with h1 | h1
  · exact absurd (ByteArray.size_eq_zero_iff.1 h1) h
  · exact h1
theorem splitF_len : ∀ (f : Nat) (s : ByteArray), (splitF f s).length ≤ f
  | 0, _ => Nat.le_refl _
  | f + 1, s => by
    rw [splitF]
    split
    · exact Nat.zero_le _
    · have := splitF_len f (s.extract (tokN s) s.size)
      rw [List.length_cons]; omega
theorem ok_step {f : Nat} {s : ByteArray} (h : gokB (f + 1) s = true) (hne : s ≠ ⟨#[]⟩) : (byteAt s 0 = 91 → 0 ≤ endF s) ∧ 1 ≤ tokN s ∧ tokN s ≤ s.size ∧ gokB f (s.extract (tokN s) s.size) = true := by
  have hp := size_pos hne
  have hb := endF_bnd s
  rw [gokB, if_neg hne, Bool.and_eq_true, Bool.or_eq_true, Bool.not_eq_true', Bool.not_eq_true', decide_eq_false_iff_not, decide_eq_false_iff_not] at h
  unfold tokN at h ⊢
  refine ⟨fun h1 => ?_, ?_, ?_, h.2⟩
  · rcases h.1 with h2 | h2
    · exact absurd h1 h2
    · omega
  · split
    · rename_i h1
      have h2 := h.1.resolve_left (fun h => h h1)
      omega
    · omega
  · split
    · rename_i h1
      have h2 := h.1.resolve_left (fun h => h h1)
      omega
    · omega
theorem cS1 (l : List ByteArray) : ClosedE (l.map encS) := closedE_of (fun _ _ => rfl) l
theorem gsplit_ac (s : ByteArray) (hs : s.size ≤ 100000) (ho : gokB s.size s = true) : AC CX 121 [.v (.string s)] (.row 1 ((splitL s).map encS)) := by
  have hsl := splitF_len s.size s
  refine AC_walk ⟨TB, 22, 0, [], []⟩ (fn := Tryz.f121) TB_ok Tryz.func121 rfl rfl rfl rfl rfl (fun _ => rfl) (fun _ => rfl) ?_; intro E hna hX
  repeat (first | ((with_reducible show W _ _ _ _ _ _); first | refine W_seq ?_ | refine W_region hX ?_ | refine W_cond ?_ | refine W_skip ?_ | refine W_exit ?_ | refine W_ret ?_) | ((fail_if_success (with_reducible show W _ _ _ _ _ _)); show W _ _ _ _ _ _) | refine andA ?_ | refine condT ?_ | refine condF ?_ | refine exB ?_ | refine exL ?_ | refine Exists.intro _ (And.intro rfl ?_) | refine Exists.intro _ (And.intro (get_mapN (by assumption)) ?_) | ((fail_if_success (with_reducible show LoopEnd _ _ _ _ _ _ _)); show LoopEnd _ _ _ _ _ _ _) | ((fail_if_success (with_reducible show JoinEnd _ _ _ _ _)); show JoinEnd _ _ _ _ _) | ((fail_if_success (with_reducible show JoinG _ _ _ _ _)); show JoinG _ _ _ _ _))
  refine W_nilOwn hX 3 9 1 rfl rfl ?_
  refine goT ?_
  refine W_loop (γ := Nat × ByteArray × List ByteArray) (fun g => splitL s = g.2.2 ++ splitF g.1 g.2.1 ∧ gokB g.1 g.2.1 = true ∧ g.2.1.size ≤ g.1 ∧ g.1 + g.2.2.length ≤ 100000) (fun g => g.1) (fun g => ⟨[(0, .v (.string g.2.1)), (3, .own 0 1 0 g.2.2.length)], [.row 9 1 (g.2.2.map encS)]⟩) (s.size, s, []) ⟨rfl, ho, Nat.le_refl _, hs⟩ (Drops.to [0, 3] rfl) ?_
  rintro ⟨f, r, out⟩ ⟨he, hok, hf, hl⟩
  dsimp only at he hok hf hl ⊢
  by_cases hne : r = ⟨#[]⟩
  · have hz : splitF f r = [] := by
      cases f with
      | zero => rfl
      | succ f => rw [splitF, if_pos hne]
    rw [hz, List.append_nil] at he
    have hd : decide (r = ⟨#[]⟩) = true := decide_eq_true hne
    rw [he]
    repeat (first | ((with_reducible show W _ _ _ _ _ _); first | refine W_seq ?_ | refine W_block ?_ | refine W_region hX ?_ | refine W_cond ?_ | refine W_skip ?_ | refine W_exit ?_) | ((fail_if_success (with_reducible show W _ _ _ _ _ _)); show W _ _ _ _ _ _) | refine andA ?_ | refine condT ?_ | refine condF ?_ | refine exB ?_ | refine exL ?_ | refine Exists.intro _ (And.intro rfl ?_) | refine Exists.intro _ (And.intro (get_mapN (by assumption)) ?_) | ((fail_if_success (with_reducible show LoopEnd _ _ _ _ _ _ _)); show LoopEnd _ _ _ _ _ _ _) | ((fail_if_success (with_reducible show JoinEnd _ _ _ _ _)); show JoinEnd _ _ _ _ _) | ((fail_if_success (with_reducible show JoinG _ _ _ _ _)); show JoinG _ _ _ _ _))
    refine W_freeze hna 0 [2] rfl (fun t ht => by simp at ht; subst ht; rfl) (List.length_map _) (cS1 _) True.intro rfl ?_
    refine goT ?_
    rfl
  · have hd : decide (r = ⟨#[]⟩) = false := decide_eq_false hne
    have hp := size_pos hne
    obtain ⟨f, rfl⟩ : ∃ f', f = f' + 1 := ⟨f - 1, by omega⟩
    obtain ⟨k1, k2, k3, k4⟩ := ok_step hok hne
    have hend := end_ac r hp (by omega)
    have hx := ext_size r (tokN r)
    rw [splitF, if_neg hne] at he
    have he2 : splitL s = (out ++ [r.extract 0 (tokN r)]) ++ splitF f (r.extract (tokN r) r.size) := by rw [he]; simp
    have hq : tokN r = if byteAt r 0 = 91 then (endF r).toNat else 1 := rfl
    refine goT ?_
    refine condB_intro (fun h1 => ?_) (fun h1 => ?_)
    · have e1 := of_decide_eq_true h1
      have k5 := k1 e1
      rw [if_pos e1] at hq
      refine goT ?_
      refine ⟨_, hend, by kernel_rfl, fun _ => rfl, ?_⟩
      refine goT ?_
      refine ⟨tokN r, by omega, by omega, ?_⟩
      refine goT ?_
      refine ⟨out.length + 1, (out ++ [r.extract 0 (tokN r)]).map encS, rfl, by rw [List.map_append]; rfl, ?_⟩
      refine goT ?_
      refine ⟨tokN r, by omega, by omega, ?_⟩
      refine goT ?_
      exact LoopEnd_fin (f, r.extract (tokN r) r.size, out ++ [r.extract 0 (tokN r)]) [0, 3] 1 hX ⟨he2, k4, by show (r.extract (tokN r) r.size).size ≤ f; omega, by show f + (out ++ [r.extract 0 (tokN r)]).length ≤ 100000; rw [List.length_append, List.length_singleton]; omega⟩ (Nat.lt_succ_self _) rfl (by rw [List.length_append]; rfl) rfl rfl ⟨cS1 _, trivial⟩
    · have e1 := of_decide_eq_false h1
      rw [if_neg e1] at hq
      rw [hq] at he2 k4 hx
      refine goT ?_
      refine ⟨out.length + 1, (out ++ [r.extract 0 1]).map encS, rfl, by rw [List.map_append]; rfl, ?_⟩
      refine goT ?_
      exact LoopEnd_fin (f, r.extract 1 r.size, out ++ [r.extract 0 1]) [0, 3] 1 hX ⟨he2, k4, by show (r.extract 1 r.size).size ≤ f; omega, by show f + (out ++ [r.extract 0 1]).length ≤ 100000; rw [List.length_append, List.length_singleton]; omega⟩ (Nat.lt_succ_self _) rfl (by rw [List.length_append]; rfl) rfl rfl ⟨cS1 _, trivial⟩
end Go.Proofs.YtdhikkdkjmeiiaaGreatDoor.Abs
