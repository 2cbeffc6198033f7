/- Trees: what may be. -/
import Derived.Test.YtnfbomhhgjlacaaDoorRpath
namespace Go.Proofs.YtnfbomhhgjlacaaDoor.Abs
open Go.RowKit Go.MapKept
set_option linter.unusedVariables false
set_option linter.unusedSimpArgs false
set_option maxRecDepth 100000
set_option maxHeartbeats 4000000
structure MetaGood (m : MetaT) : Prop where
  mode : 0 ≤ m.mode ∧ m.mode ≤ 4095
  uid : 0 ≤ m.uid ∧ m.uid ≤ 1125899906842624
  gid : 0 ≤ m.gid ∧ m.gid ≤ 1125899906842624
  user : m.user.size ≤ 60
  group : m.group.size ≤ 60
  zero : Lib.indexByte (m.user ++ m.group).data.toList 0 < 0
  second : -1099511627776 ≤ m.second ∧ m.second ≤ 1099511627776
  nano : 0 ≤ m.nano ∧ m.nano ≤ 999999999
def encMeta (m : MetaT) : List AV := [.v (.int .i64 m.mode), .v (.int .i64 m.uid), .v (.int .i64 m.gid), .v (.string m.user), .v (.string m.group), .v (.int .i64 m.second), .v (.int .i64 m.nano)]
theorem stampCheck_ac (s n : Int) (h1 : -1099511627776 ≤ s ∧ s ≤ 1099511627776) (h2 : 0 ≤ n ∧ n ≤ 999999999) : AC CX 121 [.v (.int .i64 s), .v (.int .i64 n)] (.v (.int .i64 0)) := by
  refine AC_walk ⟨TB, 19, 0, [], []⟩ (fn := Tryd.f121) TB_ok Tryd.func121 rfl rfl rfl rfl rfl (fun _ => rfl) (fun _ => rfl) ?_; intro E hna hX
  refine goT ?_
  rfl
theorem metaCheck_ac (m : MetaT) (h : MetaGood m) : AC CX 96 [.agg (encMeta m)] (.v (.int .i64 0)) := by
  obtain ⟨⟨a1, a2⟩, ⟨a3, a4⟩, ⟨a5, a6⟩, a7, a8, a9, a10, a11⟩ := h
  refine AC_walk ⟨TB, 52, 0, [], []⟩ (fn := Tryd.f96) TB_ok Tryd.func96 rfl rfl rfl rfl rfl (fun _ => rfl) (fun _ => rfl) ?_; intro E hna hX
  refine goT ?_
  refine ⟨_, indexByte_ac (m.user ++ m.group) 0, by kernel_rfl, fun _ => rfl, ?_⟩
  refine goT ?_
  refine ⟨_, stampCheck_ac _ _ a10 a11, by kernel_rfl, fun _ => rfl, ?_⟩
  refine goT ?_
  rfl
structure NodeGood (n : NodeT) : Prop where
  path : pathChk n.path = 0
  mt : MetaGood n.mt
  data : n.data.size ≤ 2000
  target : n.target.size ≤ 400
  kind : (n.kind = 1 ∧ n.target = ⟨#[]⟩ ∧ 0 ≤ n.same) ∨ (n.kind = 2 ∧ n.target = ⟨#[]⟩ ∧ n.data.size = 0 ∧ n.same = 0) ∨ (n.kind = 3 ∧ ¬ n.target = ⟨#[]⟩ ∧ Lib.indexByte n.target.data.toList 0 < 0 ∧ n.data.size = 0 ∧ n.same = 0)
theorem pathChk_size {s : ByteArray} (h : pathChk s = 0) : s.size ≤ 400 := by
  unfold pathChk at h
  split at h
  · cases h
  · omega
theorem right_ac (n : NodeT) (h : NodeGood n) : AC CX 103 [.agg (encNode n)] (.v (.int .i64 0)) := by
  obtain ⟨b1, b2, b3, b4, b5⟩ := h
  have hp := pathChk_size b1
  refine AC_walk ⟨TB, 73, 0, [], []⟩ (fn := Tryd.f103) TB_ok Tryd.func103 rfl rfl rfl rfl rfl (fun _ => rfl) (fun _ => rfl) ?_; intro E hna hX
  refine goT ?_
  refine ⟨_, pathCheck_ac n.path (by omega), by kernel_rfl, fun _ => rfl, ?_⟩
  rw [b1]
  refine goT ?_
  refine ⟨_, metaCheck_ac n.mt b2, by kernel_rfl, fun _ => rfl, ?_⟩
  refine goT ?_
  rcases b5 with ⟨k1, k2, k3⟩ | ⟨k1, k2, k3, k4⟩ | ⟨k1, k2, k3, k4, k5⟩
  · refine goT ?_
    rfl
  · refine goT ?_
    rfl
  · refine goT ?_
    refine ⟨_, indexByte_ac n.target 0, by kernel_rfl, fun _ => rfl, ?_⟩
    refine goT ?_
    rfl
end Go.Proofs.YtnfbomhhgjlacaaDoor.Abs
