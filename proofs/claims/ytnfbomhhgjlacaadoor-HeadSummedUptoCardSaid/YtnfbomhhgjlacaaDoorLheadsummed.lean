/- The law HeadSummed. -/
import Derived.Test.YtnfbomhhgjlacaaDoorLheadturned
import Derived.Test.YtnfbomhhgjlacaaDoorDr20
namespace Go.Proofs.YtnfbomhhgjlacaaDoor.Abs
open Go.RowKit Go.MapKept
set_option linter.unusedVariables false
set_option linter.unusedSimpArgs false
set_option maxRecDepth 100000
set_option maxHeartbeats 4000000
def putB (b : ByteArray) (k : Nat) (y : UInt8) : ByteArray := mkS (b.data.toList.set k y)
theorem putB_size (b : ByteArray) (k : Nat) (y : UInt8) : (putB b k y).size = b.size := by
  unfold putB
  rw [mkS_size, List.length_set, size_list]
theorem putB_sum {h : HeadT} (H : HeadOk h) {k : Nat} (h1 : 148 ≤ k) (h2 : k < 156) (y : UInt8) : sumK (putB (headB h) k y).data.toList 512 = hSum h := by
  rw [← headB_sum H]
  refine sumK_same 512 fun i hi ho => ?_
  unfold putB
  rw [mkS_list, byN_set_ne (by omega)]
theorem headSummedLaw_ac (r : RawT) (hr : RawGood r) (at' : Int) (ha : isI at') (by' : Int) (hb : 0 ≤ by' ∧ by' < 256) : AC CX 3 [.agg (encRaw r), .v (.int .i64 at'), .v (.int .u8 by')] (.v (.bool true)) := by
  obtain ⟨y, rfl⟩ : ∃ y : UInt8, by' = (y.toNat : Int) := ⟨UInt8.ofNat by'.toNat, by rw [UInt8.toNat_ofNat']; omega⟩
  have h1 := headOf_ac r hr
  have H := headOf_ok r
  generalize headOfF r = h at *
  have h2 := headWrite_ac _ H
  have hz := headB_size H
  have hp := pick_lt (n := at') (m := 8) (by decide)
  have hpk := picked_ac at' 8 ha (by decide)
  obtain ⟨k, hk⟩ : ∃ k : Nat, pickF at' 8 = (k : Int) := ⟨(pickF at' 8).toNat, by omega⟩
  rw [hk] at hpk hp
  have hs1 := sum_ac (headB h) hz
  rw [headB_sum H] at hs1
  have hs2 := sum_ac (putB (headB h) (148 + k) y) (by rw [putB_size, hz])
  rw [putB_sum H (by omega) (by omega) y] at hs2
  have hge : 256 ≤ hSum h := sumK_ge _ _
  have hlens : ∀ q ∈ bytesA (headB h), q.length = 1 := fun q hq => by unfold bytesA at hq; obtain ⟨_, _, rfl⟩ := List.mem_map.1 hq; rfl
  have hset : (bytesA (headB h)).set (148 + k) [.v (.int .u8 (y.toNat : Int))] = bytesA (putB (headB h) (148 + k) y) := by
    unfold putB bytesA
    rw [mkS_list, List.map_set]
  obtain ⟨l, hl⟩ := get_lt (l := bytesA (headB h)) (k := 148 + k) (by rw [bytesA_len]; omega)
  obtain ⟨u, rfl, _⟩ := bytesA_cell hl
  have hbl := bytesA_len (putB (headB h) (148 + k) y)
  rw [putB_size, hz] at hbl
  generalize putB (headB h) (148 + k) y = s at *
  generalize headB h = b at *
  obtain ⟨su2, hsu2⟩ : ∃ n, n = hSum h := ⟨_, rfl⟩
  rw [← hsu2] at hs2
  generalize hSum h = su at *
  refine AC_walk ⟨TB, 61, 0, [], []⟩ (fn := Tryd.f3) TB_ok Tryd.func3 rfl rfl rfl rfl rfl (fun _ => rfl) (fun _ => rfl) ?_; intro E hna hX
  refine goT ?_
  refine ⟨_, h1, by kernel_rfl, fun _ => rfl, ?_⟩
  refine goT ?_
  refine ⟨_, h2, by kernel_rfl, fun _ => rfl, ?_⟩
  repeat (first | ((with_reducible show W _ _ _ _ _ _); first | refine W_seq ?_ | refine W_block ?_ | refine W_regionB hX 4 rfl ?_ | refine W_cond ?_ | refine W_skip ?_ | refine W_exit ?_ | refine W_ret ?_) | ((fail_if_success (with_reducible show W _ _ _ _ _ _)); show W _ _ _ _ _ _) | refine andA ?_ | refine condT ?_ | refine condF ?_ | refine exB ?_ | refine exL ?_ | refine Exists.intro _ (And.intro rfl ?_) | refine Exists.intro _ (And.intro (get_mapN (by assumption)) ?_) | ((fail_if_success (with_reducible show LoopEnd _ _ _ _ _ _ _)); show LoopEnd _ _ _ _ _ _ _) | ((fail_if_success (with_reducible show JoinEnd _ _ _ _ _)); show JoinEnd _ _ _ _ _) | ((fail_if_success (with_reducible show JoinG _ _ _ _ _)); show JoinG _ _ _ _ _))
  refine W_regionW hX [.n, .nw] ?_
  refine ⟨.own 1 1 0 b.size, .row 5 1 (bytesA b), fun E => Y_strBytesO rfl rfl Tryd.underlying9 Tryd.underlying30 Tryd.underlying5 (by unfold maxLen; omega), ?_⟩
  repeat (first | ((with_reducible show W _ _ _ _ _ _); first | refine W_seq ?_ | refine W_block ?_ | refine W_regionB hX 5 rfl ?_ | refine W_cond ?_ | refine W_skip ?_ | refine W_exit ?_ | refine W_ret ?_) | ((fail_if_success (with_reducible show W _ _ _ _ _ _)); show W _ _ _ _ _ _) | refine andA ?_ | refine condT ?_ | refine condF ?_ | refine exB ?_ | refine exL ?_ | refine Exists.intro _ (And.intro rfl ?_) | refine Exists.intro _ (And.intro (get_mapN (by assumption)) ?_) | ((fail_if_success (with_reducible show LoopEnd _ _ _ _ _ _ _)); show LoopEnd _ _ _ _ _ _ _) | ((fail_if_success (with_reducible show JoinEnd _ _ _ _ _)); show JoinEnd _ _ _ _ _) | ((fail_if_success (with_reducible show JoinG _ _ _ _ _)); show JoinG _ _ _ _ _))
  refine W_drops (st' := ⟨[(7, .v (.string b)), (9, .own 1 1 0 512), (1, .v (.int .i64 at')), (2, .v (.int .u8 (y.toNat : Int)))], [.cells 23 (encRaw r), .row 5 1 (bytesA b)]⟩) (Drops.to [7, 9, 1, 2] (by rw [hz]; rfl)) ?_
  refine goT ?_
  refine ⟨_, hpk, by kernel_rfl, fun _ => rfl, ?_⟩
  refine goT ?_
  refine ⟨148 + k, 0, _, bytesA s, by show (0 + (148 + k)) * 1 = (148 + k) * 1 + 0; omega, hl, by decide, ?_, ?_⟩
  · rw [← hset]
    rfl
  refine goT ?_
  refine ⟨_, hs1, by kernel_rfl, fun _ => rfl, ?_⟩
  refine goT ?_
  refine ⟨_, hs2, by kernel_rfl, fun _ => rfl, ?_⟩
  refine goT ?_
  rw [show decide ((su : Int) ≥ 256) = true from decide_eq_true (by omega)]
  rfl
end Go.Proofs.YtnfbomhhgjlacaaDoor.Abs
