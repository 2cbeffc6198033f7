/- filter.Check, filter.takes, filter.Takes, walked. -/
import Derived.Test.YtdhikkdkjmeiiaaGreatDoorRfits
import Derived.Test.YtdhikkdkjmeiiaaGreatDoorRrun
namespace Go.Proofs.YtdhikkdkjmeiiaaGreatDoor.Abs
open Go.RowKit Go.MapKept
set_option linter.unusedVariables false
set_option linter.unusedSimpArgs false
set_option maxRecDepth 100000
set_option maxHeartbeats 4000000
abbrev RuleT := Bool × ByteArray
def encRule (r : RuleT) : List AV := [.v (.bool r.1), .v (.string r.2)]
theorem cRule (l : List RuleT) : ClosedE (l.map encRule) := closedE_of (fun _ _ => rfl) l
def takesF (l : List RuleT) (s : ByteArray) : Bool := match l.reverse.find? (fun r => fitsF r.2 s) with
  | some r => r.1
  | none => true
theorem takes_snoc (l : List RuleT) (r : RuleT) (s : ByteArray) : takesF (l ++ [r]) s = if fitsF r.2 s = true then r.1 else takesF l s := by
  unfold takesF
  rw [List.reverse_append, List.reverse_singleton, List.singleton_append, List.find?_cons]
  cases h : fitsF r.2 s <;> rfl
theorem fcheck_ac (l : List RuleT) (hl : l.length ≤ 12) (ha : ∀ r ∈ l, okG r.2 = true) : AC CX 41 [.row 2 (l.map encRule)] (.v (.int .i64 0)) := by
  refine AC_walk ⟨TB, 22, 0, [], []⟩ (fn := Tryz.f41) TB_ok Tryz.func41 rfl rfl rfl rfl rfl (fun _ => rfl) (fun _ => rfl) ?_; intro E hna hX
  refine goT ?_
  refine W_loop (fun k : Nat => k ≤ l.length) (fun k => l.length - k) (fun k => ⟨[(9, .row 2 (l.map encRule)), (10, .v (.int .i64 l.length)), (11, .v (.int .i64 k))], []⟩) 0 (Nat.zero_le _) (Drops.to [9, 10, 11] rfl) ?_
  intro k hk
  refine goT ?_
  refine condB_intro (fun h1 => ?_) (fun h1 => ?_)
  · have e1 : (k : Int) < (l.length : Int) := of_decide_eq_true h1
    obtain ⟨r, hr⟩ := get_lt (l := l) (k := k) (by omega)
    refine goT ?_
    refine ⟨_, gcheck_ac r.2 (ha r (List.mem_of_getElem? hr)), by kernel_rfl, fun _ => rfl, ?_⟩
    refine goT ?_
    exact LoopEnd_fin (k + 1) [9, 10, 11] 0 hX (by omega) (by omega) rfl rfl rfl rfl trivial
  · refine goT ?_
    rfl
theorem takes_ac (l : List RuleT) (s : ByteArray) (hl : l.length ≤ 12) (ha : ∀ r ∈ l, okG r.2 = true) (hs : pathChk s = 0) : AC CX 43 [.row 2 (l.map encRule), .v (.string s)] (.v (.bool (takesF l s))) := by
  obtain ⟨b, hb⟩ : ∃ b, takesF l s = b := ⟨_, rfl⟩
  rw [hb]
  refine AC_walk ⟨TB, 31, 0, [], []⟩ (fn := Tryz.f43) TB_ok Tryz.func43 rfl rfl rfl rfl rfl (fun _ => rfl) (fun _ => rfl) ?_; intro E hna hX
  refine goT ?_
  refine W_loop (fun j : Nat => j ≤ l.length ∧ takesF (l.take j) s = b) (fun j => j) (fun j => ⟨[(0, .row 2 (l.map encRule)), (1, .v (.string s)), (5, .v (.int .i64 ((j : Int) - 1)))], []⟩) l.length ⟨Nat.le_refl _, by rw [List.take_length]; exact hb⟩ (Drops.to [0, 1, 5] rfl) ?_
  rintro j ⟨hj, hjb⟩
  refine goT ?_
  refine condB_intro (fun h1 => ?_) (fun h1 => ?_)
  · have e1 := of_decide_eq_true h1
    obtain ⟨j, rfl⟩ : ∃ i, j = i + 1 := ⟨j - 1, by omega⟩
    obtain ⟨r, hr⟩ := get_lt (l := l) (k := j) (by omega)
    rw [take_snoc hr, takes_snoc] at hjb
    refine goT ?_
    refine ⟨j, by omega, encRule r, get_mapN hr, ?_⟩
    refine goT ?_
    refine ⟨_, fits_ac r.2 s (ha r (List.mem_of_getElem? hr)) hs, by kernel_rfl, fun _ => rfl, ?_⟩
    refine goT ?_
    refine condB_intro (fun h2 => ?_) (fun h2 => ?_)
    · rw [if_pos h2] at hjb
      refine goT ?_
      refine ⟨j, by omega, encRule r, get_mapN hr, ?_⟩
      refine goT ?_
      rw [hjb]
      rfl
    · rw [if_neg (by rw [h2]; decide)] at hjb
      refine goT ?_
      exact LoopEnd_fin j [0, 1, 5] 0 hX ⟨by omega, hjb⟩ (Nat.lt_succ_self j) rfl (by show St.mk [_, _, (5, AV.v (.int .i64 (((j + 1 : Nat) : Int) - 1 - 1)))] _ = _; rw [show (((j + 1 : Nat) : Int) - 1 - 1) = (j : Int) - 1 by omega]; rfl) rfl rfl trivial
  · have e1 := of_decide_eq_false h1
    obtain rfl : j = 0 := by omega
    rw [← hjb]
    refine goT ?_
    rfl
end Go.Proofs.YtdhikkdkjmeiiaaGreatDoor.Abs
