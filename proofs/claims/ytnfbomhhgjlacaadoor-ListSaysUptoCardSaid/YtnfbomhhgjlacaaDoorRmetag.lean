/- What raw numbers tell of a node may be. -/
import Derived.Test.YtnfbomhhgjlacaaDoorRtree3
namespace Go.Proofs.YtnfbomhhgjlacaaDoor.Abs
open Go.RowKit Go.MapKept
set_option linter.unusedVariables false
set_option linter.unusedSimpArgs false
set_option maxRecDepth 100000
set_option maxHeartbeats 4000000
theorem idx_ltM {l : List UInt8} {c : UInt8} (h : c ∉ l) : Lib.indexByte l c < 0 := by
  rw [idx_none _ _ h]
  decide
def repM (s : ByteArray) (n : Int) : ByteArray := mkS (Lib.repeatL s.data.toList n.toNat)
theorem repM_size (s : ByteArray) (n : Int) : (repM s n).size = n.toNat * s.size := by
  unfold repM
  rw [mkS_size, Lib.repeatL_length, size_list]
theorem noz_subM {s : ByteArray} {m : Int} : (0 : UInt8) ∉ (cleanF s m).data.toList := by
  unfold cleanF
  rw [ByteArray.data_extract, Array.toList_extract, List.extract_eq_take_drop, List.drop_zero, mkS_list]
  exact fun h => noz_free _ (List.mem_of_mem_take h)
theorem rep_subM {s : ByteArray} {n : Int} {c : UInt8} (h : c ∉ s.data.toList) : c ∉ (repM s n).data.toList := by
  unfold repM
  rw [mkS_list]
  have key : ∀ k, ∀ b ∈ Lib.repeatL s.data.toList k, b ∈ s.data.toList := by
    intro k
    induction k with
    | zero => intro b hb; simp [Lib.repeatL] at hb
    | succ n ih => intro b hb; simp only [Lib.repeatL, List.mem_append] at hb; exact hb.elim id (ih b)
  exact fun hm => h (key _ _ hm)
theorem meta_goodM {r : RawT} (h : RawGood r) : MetaGood (metaF r) := by
  have p1 := pick_lt (n := r.b) (m := 4096) (by decide)
  have p2 := pick_lt (n := r.c) (m := 3000) (by decide)
  have p3 := pick_lt (n := r.b) (m := 3000) (by decide)
  have p4 := clean_size r.s 40
  have p5 := pick_lt (n := r.c) (m := 17179869184) (by decide)
  have p6 := pick_lt (n := r.b) (m := 1000000000) (by decide)
  have p7 := pick_lt (n := r.c) (m := 1125899906842625) (by decide)
  have p8 := pick_lt (n := r.b) (m := 1125899906842625) (by decide)
  have p9 := pick_lt (n := r.b) (m := 61) (by decide)
  have gs : (⟨#[115, 116, 97, 102, 102]⟩ : ByteArray).size = 5 := rfl
  have z1 : (0 : UInt8) ∉ (cleanF r.s 40 ++ ⟨#[115, 116, 97, 102, 102]⟩).data.toList := by
    rw [app_list]
    exact fun h => (List.mem_append.1 h).elim noz_subM (by decide)
  have zr : (mkS (Lib.repeatL [103] (pickF r.b 61).toNat)).size ≤ 60 := by
    rw [mkS_size, Lib.repeatL_length]; simp; omega
  have z2 : (0 : UInt8) ∉ (cleanF r.s 40 ++ mkS (Lib.repeatL [103] (pickF r.b 61).toNat)).data.toList := by
    rw [app_list]
    exact fun h => (List.mem_append.1 h).elim noz_subM (rep_subM (s := ⟨#[103]⟩) (n := pickF r.b 61) (by decide))
  have base : MetaGood ⟨pickF r.b 4096, pickF r.c 3000, pickF r.b 3000, cleanF r.s 40, ⟨#[115, 116, 97, 102, 102]⟩, pickF r.c 17179869184, 0⟩ := ⟨⟨p1.1, by show pickF r.b 4096 ≤ 4095; omega⟩, ⟨p2.1, by show pickF r.c 3000 ≤ 1125899906842624; omega⟩, ⟨p3.1, by show pickF r.b 3000 ≤ 1125899906842624; omega⟩, by show (cleanF r.s 40).size ≤ 60; omega, by show (5 : Nat) ≤ 60; decide, idx_ltM z1, ⟨by show -1099511627776 ≤ pickF r.c 17179869184; omega, by show pickF r.c 17179869184 ≤ 1099511627776; omega⟩, ⟨by show (0 : Int) ≤ 0; decide, by show (0 : Int) ≤ 999999999; decide⟩⟩
  obtain ⟨b1, b2, b3, b4, b5, b6, b7, b8⟩ := base
  unfold metaF
  split
  · exact ⟨b1, b2, b3, b4, b5, b6, b7, ⟨p6.1, by show pickF r.b 1000000000 ≤ 999999999; omega⟩⟩
  split
  · exact ⟨b1, b2, b3, b4, b5, b6, ⟨by show -1099511627776 ≤ -pickF r.c 17179869184 - 1; omega, by show -pickF r.c 17179869184 - 1 ≤ 1099511627776; omega⟩, b8⟩
  split
  · exact ⟨b1, ⟨p7.1, by show pickF r.c 1125899906842625 ≤ 1125899906842624; omega⟩, b3, b4, b5, b6, b7, b8⟩
  split
  · exact ⟨b1, b2, ⟨p8.1, by show pickF r.b 1125899906842625 ≤ 1125899906842624; omega⟩, b4, b5, b6, b7, b8⟩
  split
  · exact ⟨b1, b2, b3, b4, zr, idx_ltM z2, b7, b8⟩
  · exact ⟨b1, b2, b3, b4, b5, b6, b7, b8⟩
end Go.Proofs.YtnfbomhhgjlacaaDoor.Abs
