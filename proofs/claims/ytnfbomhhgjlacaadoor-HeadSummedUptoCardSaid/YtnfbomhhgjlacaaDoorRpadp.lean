/- Bytes in whole blocks: plain facts. -/
import Derived.Test.YtnfbomhhgjlacaaDoorRstr
namespace Go.Proofs.YtnfbomhhgjlacaaDoor.Abs
open Go.RowKit Go.MapKept
set_option linter.unusedVariables false
set_option linter.unusedSimpArgs false
set_option maxRecDepth 100000
set_option maxHeartbeats 4000000
def lackN (n : Nat) : Nat := (512 - n % 512) % 512
def blocksN (n : Nat) : Nat := (n + 511) / 512
theorem lack_eq (n : Nat) : n + lackN n = blocksN n * 512 := by unfold lackN blocksN; omega
def padF (b : ByteArray) : ByteArray := mkS (b.data.toList ++ List.replicate (lackN b.size) 0)
theorem list_size (b : ByteArray) : b.data.toList.length = b.size := by rw [Array.length_toList]; rfl
theorem padF_size (b : ByteArray) : (padF b).size = blocksN b.size * 512 := by
  unfold padF
  rw [mkS_size, List.length_append, list_size, List.length_replicate, lack_eq]
theorem bytesA_mk (l : List UInt8) : bytesA (mkS l) = l.map fun b => [.v (.int .u8 (b.toNat : Int))] := by
  unfold bytesA
  rw [mkS_list]
theorem bytesA_app (s t : ByteArray) : bytesA (s ++ t) = bytesA s ++ bytesA t := by
  unfold bytesA
  rw [ByteArray.data_append, Array.toList_append, List.map_append]
theorem bytesA_padF (b : ByteArray) : bytesA (padF b) = bytesA b ++ List.replicate (lackN b.size) [.v (.int .u8 0)] := by
  unfold padF
  rw [bytesA_mk, List.map_append, List.map_replicate]
  rfl
def cutS (s : ByteArray) (i j : Nat) : ByteArray := mkS ((s.data.toList.take j).drop i)
theorem bytesA_cut (s : ByteArray) (i j : Nat) : ((bytesA s).take j).drop i = bytesA (cutS s i j) := by
  unfold cutS
  rw [bytesA_mk]
  unfold bytesA
  rw [List.map_drop, List.map_take]
theorem cut_size (s : ByteArray) (i j : Nat) (h : j ≤ s.size) : (cutS s i j).size = j - i := by
  unfold cutS
  rw [mkS_size, List.length_drop, List.length_take, list_size]
  omega
/-- What Fill laid, cut again. -/
theorem fill_cut (b m : ByteArray) : cutS (padF b ++ m) 0 b.size = b ∧ (∀ x ∈ (cutS (padF b ++ m) b.size (blocksN b.size * 512)).data.toList, x = 0) ∧ cutS (padF b ++ m) (blocksN b.size * 512) (padF b ++ m).size = m := by
  have hb := list_size b
  have hfl : (padF b).data.toList = b.data.toList ++ List.replicate (lackN b.size) 0 := mkS_list _
  have hl : (padF b ++ m).data.toList = (b.data.toList ++ List.replicate (lackN b.size) 0) ++ m.data.toList := by
    rw [ByteArray.data_append, Array.toList_append, hfl]
  have h1 : (b.data.toList ++ List.replicate (lackN b.size) (0 : UInt8)).length = blocksN b.size * 512 := by
    rw [List.length_append, hb, List.length_replicate, lack_eq]
  have hsz : (padF b ++ m).size = (blocksN b.size * 512) + m.size := by
    rw [← list_size, hl, List.length_append, h1, list_size]
  unfold cutS
  rw [hl, hsz]
  refine ⟨?_, ?_, ?_⟩
  · rw [List.append_assoc, ← hb, List.take_left, List.drop_zero, mkS_self]
  · intro x hx
    rw [mkS_list, ← h1, List.take_left, ← hb, List.drop_left] at hx
    exact List.eq_of_mem_replicate hx
  · rw [← h1, ← list_size m, ← List.length_append, List.take_length, List.drop_left, mkS_self]
end Go.Proofs.YtnfbomhhgjlacaaDoor.Abs
