/- The law HeadTurned. -/
import Derived.Test.YtnfbomhhgjlacaaDoorLheadback
import Derived.Test.YtnfbomhhgjlacaaDoorRturned
namespace Go.Proofs.YtnfbomhhgjlacaaDoor.Abs
open Go.RowKit Go.MapKept
set_option linter.unusedVariables false
set_option linter.unusedSimpArgs false
set_option maxRecDepth 100000
set_option maxHeartbeats 4000000
theorem byN_set {l : List UInt8} {k : Nat} {u : UInt8} (hk : k < l.length) : byN (l.set k u) k = u.toNat := by
  unfold byN
  rw [List.getD_eq_getElem?_getD, List.getElem?_set_self hk]
  rfl
theorem byN_set_ne {l : List UInt8} {k j : Nat} {u : UInt8} (h : j ≠ k) : byN (l.set k u) j = byN l j := by
  unfold byN
  rw [List.getD_eq_getElem?_getD, List.getD_eq_getElem?_getD, List.getElem?_set_ne (fun e => h e.symm)]
theorem head_turnB {h : HeadT} (H : HeadOk h) {k : Nat} (hk : k < 512) (y : UInt8) : octGo 0 (((turnB (headB h) k y).data.toList.take 155).drop 148) ≠ some (sumK (turnB (headB h) k y).data.toList 512) ∨ byN (turnB (headB h) k y).data.toList 155 ≠ 32 := by
  have hl : (headB h).data.toList.length = 512 := by rw [size_list, headB_size H]
  refine head_turn H (i := k) (by rw [size_list, turnB_size, headB_size H]) hk ?_ fun j hj => ?_
  · unfold turnB
    rw [mkS_list, byN_set (by omega)]
    intro e
    apply turnU_ne ((headB h).data.toList.getD k 0) y
    apply UInt8.toNat_inj.1
    exact e
  · unfold turnB
    rw [mkS_list, byN_set_ne hj]
theorem headTurnedLaw_ac (r : RawT) (hr : RawGood r) (at' : Int) (ha : isI at') (by' : Int) (hb : 0 ≤ by' ∧ by' < 256) : AC CX 5 [.agg (encRaw r), .v (.int .i64 at'), .v (.int .u8 by')] (.v (.bool true)) := by
  obtain ⟨y, rfl⟩ : ∃ y : UInt8, by' = (y.toNat : Int) := ⟨UInt8.ofNat by'.toNat, by rw [UInt8.toNat_ofNat']; omega⟩
  have h1 := headOf_ac r hr
  have H := headOf_ok r
  generalize headOfF r = h at *
  have h2 := headWrite_ac _ H
  have hz := headB_size H
  have h3 := turned_ac (headB h) (by omega) (by omega) at' ha y
  rw [hz] at h3
  have hp := pick_lt (n := at') (m := 512) (by decide)
  have h4 := headReadBad_ac (turnB (headB h) (pickF at' 512).toNat y) (by rw [turnB_size, hz]) (head_turnB H (by omega) y)
  have h3 : AC CX 16 [.row 1 (bytesA (headB h)), .v (.int .i64 at'), .v (.int .u8 (y.toNat : Int))] (.row 1 (bytesA (turnB (headB h) (pickF at' 512).toNat y))) := h3
  generalize turnB (headB h) (pickF at' 512).toNat y = s at *
  generalize headB h = b at *
  refine AC_walk ⟨TB, 36, 0, [], []⟩ (fn := Tryd.f5) TB_ok Tryd.func5 rfl rfl rfl rfl rfl (fun _ => rfl) (fun _ => rfl) ?_; intro E hna hX
  refine goT ?_
  refine ⟨_, h1, by kernel_rfl, fun _ => rfl, ?_⟩
  refine goT ?_
  refine ⟨_, h2, by kernel_rfl, fun _ => rfl, ?_⟩
  refine goT ?_
  refine ⟨_, h3, by kernel_rfl, fun _ => rfl, ?_⟩
  refine goT ?_
  refine ⟨_, h4, by kernel_rfl, fun _ => rfl, ?_⟩
  refine goT ?_
  rfl
end Go.Proofs.YtnfbomhhgjlacaaDoor.Abs
