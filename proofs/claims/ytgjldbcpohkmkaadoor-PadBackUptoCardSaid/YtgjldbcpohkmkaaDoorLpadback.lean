/- The law of bytes in whole blocks: filled and cut, they are as they were. -/
import Derived.Test.YtgjldbcpohkmkaaDoorRpad
namespace Go.Proofs.YtgjldbcpohkmkaaDoor.Abs
open Go.RowKit Go.MapKept
set_option linter.unusedVariables false
set_option linter.unusedSimpArgs false
set_option maxRecDepth 100000
set_option maxHeartbeats 4000000
theorem padbackLaw_ac (b : ByteArray) (hb : b.size ≤ 1200000) (m : ByteArray) (hm : m.size ≤ 1200000) : AC CX 3 [.row 1 (bytesA b), .row 1 (bytesA m)] (.v (.bool true)) := by
  have hfi := fill_ac b (by omega)
  have hps := padF_size b
  have hlk := lack_eq b.size
  have hl2 : lackN b.size < 512 := by unfold lackN; omega
  obtain ⟨c1, c2, c3⟩ := fill_cut b m
  have hsz : (padF b ++ m).size = (padF b).size + m.size := ByteArray.size_append
  have hcc := concat_ac (padF b) m (by omega) (by omega)
  have hcu := cut_ac (padF b ++ m) b m b.size (by omega) (by omega) (by omega) c1 c2 c3
  have hbk := blocks_ac b.size (by omega)
  have hen := padEnd_ac
  have hbl := bytesA_len b
  have hml := bytesA_len m
  have hfl := bytesA_len (padF b)
  clear c1 c2 c3 hsz
  generalize bytesA (padF b ++ m) = cat at hcc hcu
  generalize blocksN b.size = k at hps hlk hbk
  rw [hps] at hfl
  generalize bytesA (padF b) = fb at hfi hcc hfl
  have hb1 : decide (b = b) = true := decide_eq_true rfl
  have hm1 : decide (m = m) = true := decide_eq_true rfl
  refine AC_walk ⟨TB, 62, 0, [], []⟩ (fn := Tryd.f3) TB_ok Tryd.func3 rfl rfl rfl rfl rfl (fun _ => rfl) (fun _ => rfl) ?_; intro E hna hX
  refine goT ?_
  refine ⟨_, hfi, by kernel_rfl, fun _ => rfl, ?_⟩
  refine goT ?_
  refine ⟨_, hcc, by kernel_rfl, fun _ => rfl, ?_⟩
  refine goT ?_
  refine ⟨_, hcu, by kernel_rfl, fun _ => rfl, ?_⟩
  refine goT ?_
  refine ⟨_, hbk, by kernel_rfl, fun _ => rfl, ?_⟩
  refine goT ?_
  refine ⟨_, hen, by kernel_rfl, fun _ => rfl, ?_⟩
  have hrl : (List.replicate 1024 [AV.v (.int .u8 0)]).length = 1024 := List.length_replicate
  refine goT ?_
  rfl
end Go.Proofs.YtgjldbcpohkmkaaDoor.Abs
