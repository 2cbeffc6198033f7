/- Trees: the same, a copy. -/
import Derived.Test.YtgjldbcpohkmkaaDoorRlink
namespace Go.Proofs.YtgjldbcpohkmkaaDoor.Abs
open Go.RowKit Go.MapKept
set_option linter.unusedVariables false
set_option linter.unusedSimpArgs false
set_option maxRecDepth 100000
set_option maxHeartbeats 4000000
theorem sameNode_ac (a b : NodeT) : AC CX 40 [.agg (encNode a), .agg (encNode b)] (.v (.bool (decide (a = b)))) := by
  have key : decide (a = b) = (decide (a.path = b.path) && (decide (a.kind = b.kind) && (decide (a.same = b.same) && (decide (a.target = b.target) && (decide (a.mt = b.mt) && decide (a.data = b.data)))))) := by
    rw [Bool.eq_iff_iff]
    cases a; cases b
    simp
  rw [key]
  refine AC_walk ⟨TB, 47, 0, [], []⟩ (fn := Tryd.f40) TB_ok Tryd.func40 rfl rfl rfl rfl rfl (fun _ => rfl) (fun _ => rfl) ?_; intro E hna hX
  refine goT ?_
  refine condB_intro (fun h1 => ?_) (fun h1 => ?_)
  case refine_2 =>
    refine goT ?_
    rw [h1]
    rfl
  refine goT ?_
  refine condB_intro (fun h2 => ?_) (fun h2 => ?_)
  case refine_2 =>
    refine goT ?_
    rw [h1, h2]
    rfl
  refine goT ?_
  refine condB_intro (fun h3 => ?_) (fun h3 => ?_)
  case refine_2 =>
    refine goT ?_
    rw [h1, h2, h3]
    rfl
  refine goT ?_
  refine condB_intro (fun h4 => ?_) (fun h4 => ?_)
  case refine_2 =>
    refine goT ?_
    rw [h1, h2, h3, h4]
    rfl
  refine goT ?_
  refine condB_intro (fun h5 => ?_) (fun h5 => ?_)
  case refine_2 =>
    have e5 := metaEq.symm.trans h5
    refine goT ?_
    rw [h1, h2, h3, h4, e5]
    rfl
  have e5 := metaEq.symm.trans h5
  refine goT ?_
  rw [h1, h2, h3, h4, e5]
  rfl
theorem equalFunc_ac (l m : List NodeT) (f : Nat) (hl : l.length ≤ 1000000000) (hm : m.length ≤ 1000000000) (hf : FnOk CX.P f = true) (h : ∀ a b, AC CX f [.agg (encNode a), .agg (encNode b)] (.v (.bool (decide (a = b))))) : AC CX 39 [.row 12 (l.map encNode), .row 12 (m.map encNode), .fn (.func f) []] (.v (.bool (decide (l = m)))) := by
  refine AC_walk ⟨TB, 32, 0, [], []⟩ (fn := Tryd.f39) TB_ok Tryd.func39 rfl rfl rfl rfl rfl (fun _ => rfl) (fun _ => rfl) ?_; intro E hna hX
  refine goT ?_
  refine condB_intro (fun h0 => ?_) (fun h0 => ?_)
  · have e0 : ¬ l = m := fun e => by subst e; simp at h0
    refine goT ?_
    rw [decide_eq_false e0]
    rfl
  have e0 : l.length = m.length := by
    have := h0
    simp only [Bool.not_eq_false', decide_eq_true_eq] at this
    omega
  refine goT ?_
  refine W_loop (fun k : Nat => k ≤ l.length ∧ l.take k = m.take k) (fun k => l.length - k) (fun k => ⟨[(1, .row 12 (m.map encNode)), (2, .fn (.func f) []), (15, .row 12 (l.map encNode)), (16, .v (.int .i64 l.length)), (17, .v (.int .i64 k))], []⟩) 0 ⟨Nat.zero_le _, rfl⟩ (Drops.to [1, 2, 15, 16, 17] rfl) ?_
  rintro k ⟨hk, he⟩
  refine goT ?_
  refine condB_intro (fun h1 => ?_) (fun h1 => ?_)
  · have e1 := of_decide_eq_true h1
    obtain ⟨x, hx⟩ := get_lt (l := l) (k := k) (by omega)
    obtain ⟨y, hy⟩ := get_lt (l := m) (k := k) (by omega)
    refine goT ?_
    refine ⟨_, h x y, hf, fun _ => rfl, ?_⟩
    refine goT ?_
    refine condB_intro (fun h2 => ?_) (fun h2 => ?_)
    · have e2 : ¬ l = m := fun e => by
        subst e
        rw [hx] at hy
        injection hy with hy
        subst hy
        simp at h2
      refine goT ?_
      rw [decide_eq_false e2]
      rfl
    · have e2 : x = y := by simpa using h2
      refine goT ?_
      exact LoopEnd_fin (k + 1) [1, 2, 15, 16, 17] 0 hX ⟨by omega, by rw [take_snoc hx, take_snoc hy, he, e2]⟩ (by omega) rfl rfl rfl rfl trivial
  · have e1 := of_decide_eq_false h1
    obtain rfl : k = l.length := by omega
    have e2 : l = m := by
      rw [List.take_length, e0, List.take_length] at he
      exact he
    refine goT ?_
    rw [decide_eq_true e2]
    rfl
theorem sameTree_ac (l m : List NodeT) (hl : l.length ≤ 1000000000) (hm : m.length ≤ 1000000000) : AC CX 16 [.row 12 (l.map encNode), .row 12 (m.map encNode)] (.v (.bool (decide (l = m)))) := by
  refine AC_walk ⟨TB, 8, 0, [], []⟩ (fn := Tryd.f16) TB_ok Tryd.func16 rfl rfl rfl rfl rfl (fun _ => rfl) (fun _ => rfl) ?_; intro E hna hX
  refine goT ?_
  refine ⟨_, equalFunc_ac l m 40 hl hm (by kernel_rfl) sameNode_ac, by kernel_rfl, fun _ => rfl, ?_⟩
  refine goT ?_
  rfl
end Go.Proofs.YtgjldbcpohkmkaaDoor.Abs
