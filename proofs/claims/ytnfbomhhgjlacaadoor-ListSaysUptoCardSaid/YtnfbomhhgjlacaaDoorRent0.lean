/- Members of an archive: what they may be; plan.Right. -/
import Derived.Test.YtnfbomhhgjlacaaDoorRlink
namespace Go.Proofs.YtnfbomhhgjlacaaDoor.Abs
open Go.RowKit Go.MapKept
set_option linter.unusedVariables false
set_option linter.unusedSimpArgs false
set_option maxRecDepth 100000
set_option maxHeartbeats 4000000
structure EntT where
  path : ByteArray
  kind : Int
  target : ByteArray
  mt : MetaT
  data : ByteArray
deriving DecidableEq
def encE (x : EntT) : List AV := [.v (.string x.path), .v (.int .i64 x.kind), .v (.string x.target), .v (.int .i64 x.mt.mode), .v (.int .i64 x.mt.uid), .v (.int .i64 x.mt.gid), .v (.string x.mt.user), .v (.string x.mt.group), .v (.int .i64 x.mt.second), .v (.int .i64 x.mt.nano), .row 1 (bytesA x.data)]
structure EntGood (x : EntT) : Prop where
  path : pathChk x.path = 0
  mt : MetaGood x.mt
  kind : 1 ≤ x.kind ∧ x.kind ≤ 4
  data : x.kind ≠ 1 → x.data = ⟨#[]⟩
  target : x.target = ⟨#[]⟩ ↔ x.kind < 3
  dsize : x.data.size ≤ 2000
  tsize : x.target.size ≤ 400
  link : x.kind = 4 → pathChk x.target = 0
  zero : x.kind ≠ 4 → Lib.indexByte x.target.data.toList 0 < 0
theorem pright_ac (x : EntT) (h : EntGood x) : AC CX 54 [.agg (encE x)] (.v (.int .i64 0)) := by
  obtain ⟨b1, b2, b3, b4, b5, b6, b7, b8, b9⟩ := h
  have hp := pathChk_size b1
  have hd : x.kind ≠ 1 → ((bytesA x.data).length : Int) = 0 := fun h => by rw [b4 h]; rfl
  have hdl : (bytesA x.data).length = x.data.size := bytesA_len _
  refine AC_walk ⟨TB, 63, 0, [], []⟩ (fn := Tryd.f54) TB_ok Tryd.func54 rfl rfl rfl rfl rfl (fun _ => rfl) (fun _ => rfl) ?_; intro E hna hX
  refine goT ?_
  refine ⟨_, pathCheck_ac x.path (by omega), by kernel_rfl, fun _ => rfl, ?_⟩
  rw [b1]
  refine goT ?_
  refine ⟨_, metaCheck_ac x.mt b2, by kernel_rfl, fun _ => rfl, ?_⟩
  refine goT ?_
  by_cases k3 : x.kind < 3
  · have ht : x.target = ⟨#[]⟩ := b5.2 k3
    have hz := b9 (by omega)
    have hc : (!((!decide (x.target = ⟨#[]⟩)) == decide (x.kind ≥ 3))) = false := by rw [decide_eq_true ht, decide_eq_false (by omega)]; rfl
    clear b4 b5 b8 b9
    by_cases k1 : x.kind = 1
    · clear hd
      refine goT ?_
      refine ⟨_, indexByte_ac x.target 0, by kernel_rfl, fun _ => rfl, ?_⟩
      refine goT ?_
      rfl
    · have hd := hd k1
      refine goT ?_
      refine ⟨_, indexByte_ac x.target 0, by kernel_rfl, fun _ => rfl, ?_⟩
      refine goT ?_
      rfl
  · have ht : ¬ x.target = ⟨#[]⟩ := fun e => k3 (b5.1 e)
    have hd := hd (by omega)
    have hc : (!((!decide (x.target = ⟨#[]⟩)) == decide (x.kind ≥ 3))) = false := by rw [decide_eq_false ht, decide_eq_true (by omega)]; rfl
    by_cases k4 : x.kind = 4
    · have ht4 := b8 k4
      clear b4 b5 b8 b9
      refine goT ?_
      refine ⟨_, pathCheck_ac x.target (by omega), by kernel_rfl, fun _ => rfl, ?_⟩
      rw [ht4]
      refine goT ?_
      rfl
    · have hz := b9 k4
      clear b4 b5 b8 b9
      refine goT ?_
      refine ⟨_, indexByte_ac x.target 0, by kernel_rfl, fun _ => rfl, ?_⟩
      refine goT ?_
      rfl
/-- A member's cells where its bytes are nil. -/
def encENil (x : EntT) : List AV := [.v (.string x.path), .v (.int .i64 x.kind), .v (.string x.target), .v (.int .i64 x.mt.mode), .v (.int .i64 x.mt.uid), .v (.int .i64 x.mt.gid), .v (.string x.mt.user), .v (.string x.mt.group), .v (.int .i64 x.mt.second), .v (.int .i64 x.mt.nano), .v (.slice none 0 0)]
theorem encENil_imp {x : EntT} (h : bytesA x.data = []) : ImpL (encENil x) (encE x) := by
  unfold encENil encE
  rw [h]
  exact ⟨Imp.refl _, Imp.refl _, Imp.refl _, Imp.refl _, Imp.refl _, Imp.refl _, Imp.refl _, Imp.refl _, Imp.refl _, Imp.refl _, Imp.nil 1, trivial⟩
end Go.Proofs.YtnfbomhhgjlacaaDoor.Abs
