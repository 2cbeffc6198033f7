/- meta.Text: what may be done, as letters. -/
import Derived.Test.YtnfbomhhgjlacaaDoorRoct
import Derived.Test.YtnfbomhhgjlacaaDoorRarr
import Derived.Test.YtnfbomhhgjlacaaDoorDr20
namespace Go.Proofs.YtnfbomhhgjlacaaDoor.Abs
open Go.RowKit Go.MapKept
set_option linter.unusedVariables false
set_option linter.unusedSimpArgs false
set_option maxRecDepth 100000
set_option maxHeartbeats 4000000
def setB (b : ByteArray) (k : Nat) (y : UInt8) : ByteArray := mkS (b.data.toList.set k y)
theorem setB_size (b : ByteArray) (k : Nat) (y : UInt8) : (setB b k y).size = b.size := by
  unfold setB
  rw [mkS_size, List.length_set, size_list]
theorem setB_bytes (b : ByteArray) (k : Nat) (y : UInt8) : (bytesA b).set k [.v (.int .u8 (y.toNat : Int))] = bytesA (setB b k y) := by
  unfold setB bytesA
  rw [mkS_list, List.map_set]
/-- Bit j of a number is 0. -/
def bitZ (m : Int) (j : Int) : Bool := decide (bitsI .and .i64 (m.fdiv (2 ^ (min j.toNat IntKind.i64.bits))) 1 = 0)
def rwxB : ByteArray := ⟨#[114, 119, 120, 114, 119, 120, 114, 119, 120]⟩
def rowA (m : Int) : Nat → ByteArray
  | 0 => rwxB
  | k + 1 => if bitZ m (8 - (k : Int)) = true then setB (rowA m k) k 45 else rowA m k
theorem rowA_size (m : Int) : ∀ k, (rowA m k).size = 9
  | 0 => rfl
  | k + 1 => by
    rw [rowA]
    split
    · rw [setB_size, rowA_size]
    · exact rowA_size m k
def sgnB : Nat → UInt8
  | 0 => 116
  | _ => 115
def rowB (m : Int) : Nat → ByteArray
  | 0 => rowA m 9
  | k + 1 => if bitZ m (9 + (k : Int)) = true then rowB m k else setB (rowB m k) (8 - 3 * k) (if (rowB m k).data.toList.getD (8 - 3 * k) 0 = 45 then sgnB k - 32 else sgnB k)
theorem rowB_size (m : Int) : ∀ k, (rowB m k).size = 9
  | 0 => rowA_size m 9
  | k + 1 => by
    rw [rowB]
    split
    · exact rowB_size m k
    · rw [setB_size, rowB_size]
theorem arrB_run (a b c : Int) (w : World) : (Instr.build 107 #[(0, .int .u8 a), (1, .int .u8 b), (2, .int .u8 c)]).run CX.P w = .ok (.agg #[.int .u8 a, .int .u8 b, .int .u8 c]) w := by kernel_rfl
theorem arrB_0 (a b c : Int) (w : World) : (Instr.index 107 (.agg #[.int .u8 a, .int .u8 b, .int .u8 c]) (.int .i64 0)).run CX.P w = .ok (.int .u8 a) w := by kernel_rfl
theorem arrB_1 (a b c : Int) (w : World) : (Instr.index 107 (.agg #[.int .u8 a, .int .u8 b, .int .u8 c]) (.int .i64 1)).run CX.P w = .ok (.int .u8 b) w := by kernel_rfl
theorem arrB_2 (a b c : Int) (w : World) : (Instr.index 107 (.agg #[.int .u8 a, .int .u8 b, .int .u8 c]) (.int .i64 2)).run CX.P w = .ok (.int .u8 c) w := by kernel_rfl
theorem metaText_ac (m : Int) (h0 : 0 ≤ m) (h1 : m ≤ 4095) : AC CX 19 [.v (.int .i64 m)] (.tup [.v (.string (rowB m 3)), .v (.int .i64 0)]) := by
  refine AC_walk ⟨TB, 60, 0, [], [15]⟩ (fn := Tryd.f19) TB_ok Tryd.func19 rfl rfl rfl rfl rfl (fun _ => rfl) (fun _ => rfl) ?_; intro E hna hX
  repeat (first | ((with_reducible show W _ _ _ _ _ _); first | refine W_seq ?_ | refine W_block ?_ | refine W_regionB hX 3 rfl ?_ | refine W_cond ?_ | refine W_skip ?_ | refine W_exit ?_ | refine W_ret ?_) | ((fail_if_success (with_reducible show W _ _ _ _ _ _)); show W _ _ _ _ _ _) | refine andA ?_ | refine condT ?_ | refine condF ?_ | refine exB ?_ | refine exL ?_ | refine Exists.intro _ (And.intro rfl ?_) | refine Exists.intro _ (And.intro (get_mapN (by assumption)) ?_) | ((fail_if_success (with_reducible show LoopEnd _ _ _ _ _ _ _)); show LoopEnd _ _ _ _ _ _ _) | ((fail_if_success (with_reducible show JoinEnd _ _ _ _ _)); show JoinEnd _ _ _ _ _) | ((fail_if_success (with_reducible show JoinG _ _ _ _ _)); show JoinG _ _ _ _ _))
  refine W_regionW hX [.n, .mk] ?_
  refine ⟨⟨by decide, _, _, rfl⟩, ?_⟩
  repeat (first | ((with_reducible show W _ _ _ _ _ _); first | refine W_seq ?_ | refine W_block ?_ | refine W_regionB hX 4 rfl ?_ | refine W_cond ?_ | refine W_skip ?_ | refine W_exit ?_ | refine W_ret ?_) | ((fail_if_success (with_reducible show W _ _ _ _ _ _)); show W _ _ _ _ _ _) | refine andA ?_ | refine condT ?_ | refine condF ?_ | refine exB ?_ | refine exL ?_ | refine Exists.intro _ (And.intro rfl ?_) | refine Exists.intro _ (And.intro (get_mapN (by assumption)) ?_) | ((fail_if_success (with_reducible show LoopEnd _ _ _ _ _ _ _)); show LoopEnd _ _ _ _ _ _ _) | ((fail_if_success (with_reducible show JoinEnd _ _ _ _ _)); show JoinEnd _ _ _ _ _) | ((fail_if_success (with_reducible show JoinG _ _ _ _ _)); show JoinG _ _ _ _ _))
  refine W_drops (st' := ⟨[(0, .v (.int .i64 m)), (4, .own 0 1 0 9)], [.row 5 1 (bytesA (rowA m 0))]⟩) (Drops.to [0, 4] rfl) ?_
  refine goT ?_
  refine W_loop (fun k : Nat => k ≤ 9) (fun k => 9 - k) (fun k => ⟨[(0, .v (.int .i64 m)), (4, .own 0 1 0 9), (18, .v (.int .i64 9)), (19, .v (.int .i64 k))], [.row 5 1 (bytesA (rowA m k))]⟩) 0 (Nat.zero_le _) (Drops.to [0, 4, 18, 19] rfl) ?_
  intro k hk
  have hsz := rowA_size m k
  have hbl := bytesA_len (rowA m k)
  refine goT ?_
  refine condB_intro (fun h1 => ?_) (fun h1 => ?_)
  · have e1 := of_decide_eq_true h1
    obtain ⟨l, hl⟩ := get_lt (l := bytesA (rowA m k)) (k := k) (by omega)
    obtain ⟨u, rfl, _⟩ := bytesA_cell hl
    have hset := setB_bytes (rowA m k) k 45
    refine goT ?_
    refine condB_intro (fun h2 => ?_) (fun h2 => ?_)
    · have hz : bitZ m (8 - (k : Int)) = true := h2
      have hst : rowA m (k + 1) = setB (rowA m k) k 45 := by rw [rowA, if_pos hz]
      refine goT ?_
      refine ⟨k, 0, _, bytesA (rowA m (k + 1)), by show (0 + k) * 1 = k * 1 + 0; omega, hl, by decide, ?_, ?_⟩
      · rw [hst, ← hset]
        rfl
      refine goT ?_
      exact LoopEnd_fin (k + 1) [0, 4, 18, 19] 1 hX (by omega) (by omega) rfl rfl rfl rfl ⟨fun i => bytesA_closed _ i, trivial⟩
    · have hz : ¬ bitZ m (8 - (k : Int)) = true := by
        intro e
        have e : decide _ = true := e
        rw [h2] at e
        cases e
      have hst : rowA m (k + 1) = rowA m k := by rw [rowA, if_neg hz]
      refine goT ?_
      exact LoopEnd_fin (k + 1) [0, 4, 18, 19] 1 hX (by omega) (by omega) rfl (by rw [hst]; rfl) rfl rfl ⟨fun i => bytesA_closed _ i, trivial⟩
  · have e1 := of_decide_eq_false h1
    obtain rfl : k = 9 := by omega
    repeat (first | ((with_reducible show W _ _ _ _ _ _); first | refine W_seq ?_ | refine W_block ?_ | refine W_regionB hX 10 rfl ?_ | refine W_cond ?_ | refine W_skip ?_ | refine W_exit ?_ | refine W_ret ?_) | ((fail_if_success (with_reducible show W _ _ _ _ _ _)); show W _ _ _ _ _ _) | refine andA ?_ | refine condT ?_ | refine condF ?_ | refine exB ?_ | refine exL ?_ | refine Exists.intro _ (And.intro rfl ?_) | refine Exists.intro _ (And.intro (get_mapN (by assumption)) ?_) | ((fail_if_success (with_reducible show LoopEnd _ _ _ _ _ _ _)); show LoopEnd _ _ _ _ _ _ _) | ((fail_if_success (with_reducible show JoinEnd _ _ _ _ _)); show JoinEnd _ _ _ _ _) | ((fail_if_success (with_reducible show JoinG _ _ _ _ _)); show JoinG _ _ _ _ _))
    refine W_regionW hX [.y] ?_
    refine ⟨_, fun E => Y_arr3 rfl rfl rfl rfl (arrB_run _ _ _) rfl rfl rfl, ?_⟩
    refine goT ?_
    refine W_loop (fun k : Nat => k ≤ 3) (fun k => 3 - k) (fun k => ⟨[(0, .v (.int .i64 m)), (4, .own 0 1 0 9), (32, .agg [.v (.int .u8 116), .v (.int .u8 115), .v (.int .u8 115)]), (33, .v (.int .i64 k))], [.row 5 1 (bytesA (rowB m k))]⟩) 0 (Nat.zero_le _) (Drops.to [0, 4, 32, 33] rfl) ?_
    intro k hk
    have hsz := rowB_size m k
    have hbl := bytesA_len (rowB m k)
    by_cases h3 : k = 3
    · subst h3
      refine goT ?_
      rfl
    · obtain rfl | rfl | rfl : k = 0 ∨ k = 1 ∨ k = 2 := by omega
      · obtain ⟨l, hl⟩ := get_lt (l := bytesA (rowB m 0)) (k := 8) (by omega)
        obtain ⟨u, rfl, hu⟩ := bytesA_cell hl
        have hlens : ∀ q ∈ bytesA (rowB m 0), q.length = 1 := fun q hq => by unfold bytesA at hq; obtain ⟨_, _, rfl⟩ := List.mem_map.1 hq; rfl
        have hug : (rowB m 0).data.toList.getD (8 - 3 * 0) 0 = u := by show (rowB m 0).data.toList.getD 8 0 = u; rw [List.getD_eq_getElem?_getD, hu]; rfl
        repeat (first | ((with_reducible show W _ _ _ _ _ _); first | refine W_seq ?_ | refine W_block ?_ | refine W_regionB hX 12 rfl ?_ | refine W_cond ?_ | refine W_skip ?_ | refine W_exit ?_ | refine W_ret ?_) | ((fail_if_success (with_reducible show W _ _ _ _ _ _)); show W _ _ _ _ _ _) | refine andA ?_ | refine condT ?_ | refine condF ?_ | refine exB ?_ | refine exL ?_ | refine Exists.intro _ (And.intro rfl ?_) | refine Exists.intro _ (And.intro (get_mapN (by assumption)) ?_) | ((fail_if_success (with_reducible show LoopEnd _ _ _ _ _ _ _)); show LoopEnd _ _ _ _ _ _ _) | ((fail_if_success (with_reducible show JoinEnd _ _ _ _ _)); show JoinEnd _ _ _ _ _) | ((fail_if_success (with_reducible show JoinG _ _ _ _ _)); show JoinG _ _ _ _ _))
        refine W_regionW hX [.n, .y] ?_
        refine ⟨_, fun E => Y_arrIdx (us := [.int .u8 116, .int .u8 115, .int .u8 115]) rfl rfl rfl (arrB_0 _ _ _), ?_⟩
        refine goT ?_
        refine condB_intro (fun h2 => ?_) (fun h2 => ?_)
        · have hz : bitZ m (9 + ((0 : Nat) : Int)) = true := h2
          have hst : rowB m (0 + 1) = rowB m 0 := if_pos hz
          refine goT ?_
          exact LoopEnd_fin 1 [0, 4, 32, 33] 1 hX (by omega) (by omega) rfl (by rw [hst]; rfl) rfl rfl ⟨fun i => bytesA_closed _ i, trivial⟩
        · have hz : ¬ bitZ m (9 + ((0 : Nat) : Int)) = true := by
            intro e
            have e : decide _ = true := e
            rw [h2] at e
            cases e
          refine goT ?_
          refine ⟨8, 0, _, rfl, hl, hlens, ?_⟩
          refine goT ?_
          refine condB_intro (fun h4 => ?_) (fun h4 => ?_)
          · have hu45 : u = 45 := UInt8.toNat_inj.1 (by have := of_decide_eq_true h4; have h45 : (45 : UInt8).toNat = 45 := rfl; omega)
            have hst : rowB m (0 + 1) = setB (rowB m 0) 8 (sgnB 0 - 32) := by
              show (if bitZ m (9 + ((0 : Nat) : Int)) = true then rowB m 0 else setB (rowB m 0) (8 - 3 * 0) (if (rowB m 0).data.toList.getD (8 - 3 * 0) 0 = 45 then sgnB 0 - 32 else sgnB 0)) = _
              rw [if_neg hz, hug, if_pos hu45]
            refine goT ?_
            refine ⟨8, 0, _, bytesA (rowB m (0 + 1)), rfl, hl, by decide, ?_, ?_⟩
            · rw [hst, ← setB_bytes]
              rfl
            refine goT ?_
            exact LoopEnd_fin 1 [0, 4, 32, 33] 1 hX (by omega) (by omega) rfl rfl rfl rfl ⟨fun i => bytesA_closed _ i, trivial⟩
          · have hu45 : ¬ u = 45 := fun e => by
              have h5 := of_decide_eq_false h4
              rw [e] at h5
              exact h5 rfl
            have hst : rowB m (0 + 1) = setB (rowB m 0) 8 (sgnB 0) := by
              show (if bitZ m (9 + ((0 : Nat) : Int)) = true then rowB m 0 else setB (rowB m 0) (8 - 3 * 0) (if (rowB m 0).data.toList.getD (8 - 3 * 0) 0 = 45 then sgnB 0 - 32 else sgnB 0)) = _
              rw [if_neg hz, hug, if_neg hu45]
            refine goT ?_
            refine ⟨8, 0, _, bytesA (rowB m (0 + 1)), rfl, hl, by decide, ?_, ?_⟩
            · rw [hst, ← setB_bytes]
              rfl
            refine goT ?_
            exact LoopEnd_fin 1 [0, 4, 32, 33] 1 hX (by omega) (by omega) rfl rfl rfl rfl ⟨fun i => bytesA_closed _ i, trivial⟩
      · obtain ⟨l, hl⟩ := get_lt (l := bytesA (rowB m 1)) (k := 5) (by omega)
        obtain ⟨u, rfl, hu⟩ := bytesA_cell hl
        have hlens : ∀ q ∈ bytesA (rowB m 1), q.length = 1 := fun q hq => by unfold bytesA at hq; obtain ⟨_, _, rfl⟩ := List.mem_map.1 hq; rfl
        have hug : (rowB m 1).data.toList.getD (8 - 3 * 1) 0 = u := by show (rowB m 1).data.toList.getD 5 0 = u; rw [List.getD_eq_getElem?_getD, hu]; rfl
        repeat (first | ((with_reducible show W _ _ _ _ _ _); first | refine W_seq ?_ | refine W_block ?_ | refine W_regionB hX 12 rfl ?_ | refine W_cond ?_ | refine W_skip ?_ | refine W_exit ?_ | refine W_ret ?_) | ((fail_if_success (with_reducible show W _ _ _ _ _ _)); show W _ _ _ _ _ _) | refine andA ?_ | refine condT ?_ | refine condF ?_ | refine exB ?_ | refine exL ?_ | refine Exists.intro _ (And.intro rfl ?_) | refine Exists.intro _ (And.intro (get_mapN (by assumption)) ?_) | ((fail_if_success (with_reducible show LoopEnd _ _ _ _ _ _ _)); show LoopEnd _ _ _ _ _ _ _) | ((fail_if_success (with_reducible show JoinEnd _ _ _ _ _)); show JoinEnd _ _ _ _ _) | ((fail_if_success (with_reducible show JoinG _ _ _ _ _)); show JoinG _ _ _ _ _))
        refine W_regionW hX [.n, .y] ?_
        refine ⟨_, fun E => Y_arrIdx (us := [.int .u8 116, .int .u8 115, .int .u8 115]) rfl rfl rfl (arrB_1 _ _ _), ?_⟩
        refine goT ?_
        refine condB_intro (fun h2 => ?_) (fun h2 => ?_)
        · have hz : bitZ m (9 + ((1 : Nat) : Int)) = true := h2
          have hst : rowB m (1 + 1) = rowB m 1 := if_pos hz
          refine goT ?_
          exact LoopEnd_fin 2 [0, 4, 32, 33] 1 hX (by omega) (by omega) rfl (by rw [hst]; rfl) rfl rfl ⟨fun i => bytesA_closed _ i, trivial⟩
        · have hz : ¬ bitZ m (9 + ((1 : Nat) : Int)) = true := by
            intro e
            have e : decide _ = true := e
            rw [h2] at e
            cases e
          refine goT ?_
          refine ⟨5, 0, _, rfl, hl, hlens, ?_⟩
          refine goT ?_
          refine condB_intro (fun h4 => ?_) (fun h4 => ?_)
          · have hu45 : u = 45 := UInt8.toNat_inj.1 (by have := of_decide_eq_true h4; have h45 : (45 : UInt8).toNat = 45 := rfl; omega)
            have hst : rowB m (1 + 1) = setB (rowB m 1) 5 (sgnB 1 - 32) := by
              show (if bitZ m (9 + ((1 : Nat) : Int)) = true then rowB m 1 else setB (rowB m 1) (8 - 3 * 1) (if (rowB m 1).data.toList.getD (8 - 3 * 1) 0 = 45 then sgnB 1 - 32 else sgnB 1)) = _
              rw [if_neg hz, hug, if_pos hu45]
            refine goT ?_
            refine ⟨5, 0, _, bytesA (rowB m (1 + 1)), rfl, hl, by decide, ?_, ?_⟩
            · rw [hst, ← setB_bytes]
              rfl
            refine goT ?_
            exact LoopEnd_fin 2 [0, 4, 32, 33] 1 hX (by omega) (by omega) rfl rfl rfl rfl ⟨fun i => bytesA_closed _ i, trivial⟩
          · have hu45 : ¬ u = 45 := fun e => by
              have h5 := of_decide_eq_false h4
              rw [e] at h5
              exact h5 rfl
            have hst : rowB m (1 + 1) = setB (rowB m 1) 5 (sgnB 1) := by
              show (if bitZ m (9 + ((1 : Nat) : Int)) = true then rowB m 1 else setB (rowB m 1) (8 - 3 * 1) (if (rowB m 1).data.toList.getD (8 - 3 * 1) 0 = 45 then sgnB 1 - 32 else sgnB 1)) = _
              rw [if_neg hz, hug, if_neg hu45]
            refine goT ?_
            refine ⟨5, 0, _, bytesA (rowB m (1 + 1)), rfl, hl, by decide, ?_, ?_⟩
            · rw [hst, ← setB_bytes]
              rfl
            refine goT ?_
            exact LoopEnd_fin 2 [0, 4, 32, 33] 1 hX (by omega) (by omega) rfl rfl rfl rfl ⟨fun i => bytesA_closed _ i, trivial⟩
      · obtain ⟨l, hl⟩ := get_lt (l := bytesA (rowB m 2)) (k := 2) (by omega)
        obtain ⟨u, rfl, hu⟩ := bytesA_cell hl
        have hlens : ∀ q ∈ bytesA (rowB m 2), q.length = 1 := fun q hq => by unfold bytesA at hq; obtain ⟨_, _, rfl⟩ := List.mem_map.1 hq; rfl
        have hug : (rowB m 2).data.toList.getD (8 - 3 * 2) 0 = u := by show (rowB m 2).data.toList.getD 2 0 = u; rw [List.getD_eq_getElem?_getD, hu]; rfl
        repeat (first | ((with_reducible show W _ _ _ _ _ _); first | refine W_seq ?_ | refine W_block ?_ | refine W_regionB hX 12 rfl ?_ | refine W_cond ?_ | refine W_skip ?_ | refine W_exit ?_ | refine W_ret ?_) | ((fail_if_success (with_reducible show W _ _ _ _ _ _)); show W _ _ _ _ _ _) | refine andA ?_ | refine condT ?_ | refine condF ?_ | refine exB ?_ | refine exL ?_ | refine Exists.intro _ (And.intro rfl ?_) | refine Exists.intro _ (And.intro (get_mapN (by assumption)) ?_) | ((fail_if_success (with_reducible show LoopEnd _ _ _ _ _ _ _)); show LoopEnd _ _ _ _ _ _ _) | ((fail_if_success (with_reducible show JoinEnd _ _ _ _ _)); show JoinEnd _ _ _ _ _) | ((fail_if_success (with_reducible show JoinG _ _ _ _ _)); show JoinG _ _ _ _ _))
        refine W_regionW hX [.n, .y] ?_
        refine ⟨_, fun E => Y_arrIdx (us := [.int .u8 116, .int .u8 115, .int .u8 115]) rfl rfl rfl (arrB_2 _ _ _), ?_⟩
        refine goT ?_
        refine condB_intro (fun h2 => ?_) (fun h2 => ?_)
        · have hz : bitZ m (9 + ((2 : Nat) : Int)) = true := h2
          have hst : rowB m (2 + 1) = rowB m 2 := if_pos hz
          refine goT ?_
          exact LoopEnd_fin 3 [0, 4, 32, 33] 1 hX (by omega) (by omega) rfl (by rw [hst]; rfl) rfl rfl ⟨fun i => bytesA_closed _ i, trivial⟩
        · have hz : ¬ bitZ m (9 + ((2 : Nat) : Int)) = true := by
            intro e
            have e : decide _ = true := e
            rw [h2] at e
            cases e
          refine goT ?_
          refine ⟨2, 0, _, rfl, hl, hlens, ?_⟩
          refine goT ?_
          refine condB_intro (fun h4 => ?_) (fun h4 => ?_)
          · have hu45 : u = 45 := UInt8.toNat_inj.1 (by have := of_decide_eq_true h4; have h45 : (45 : UInt8).toNat = 45 := rfl; omega)
            have hst : rowB m (2 + 1) = setB (rowB m 2) 2 (sgnB 2 - 32) := by
              show (if bitZ m (9 + ((2 : Nat) : Int)) = true then rowB m 2 else setB (rowB m 2) (8 - 3 * 2) (if (rowB m 2).data.toList.getD (8 - 3 * 2) 0 = 45 then sgnB 2 - 32 else sgnB 2)) = _
              rw [if_neg hz, hug, if_pos hu45]
            refine goT ?_
            refine ⟨2, 0, _, bytesA (rowB m (2 + 1)), rfl, hl, by decide, ?_, ?_⟩
            · rw [hst, ← setB_bytes]
              rfl
            refine goT ?_
            exact LoopEnd_fin 3 [0, 4, 32, 33] 1 hX (by omega) (by omega) rfl rfl rfl rfl ⟨fun i => bytesA_closed _ i, trivial⟩
          · have hu45 : ¬ u = 45 := fun e => by
              have h5 := of_decide_eq_false h4
              rw [e] at h5
              exact h5 rfl
            have hst : rowB m (2 + 1) = setB (rowB m 2) 2 (sgnB 2) := by
              show (if bitZ m (9 + ((2 : Nat) : Int)) = true then rowB m 2 else setB (rowB m 2) (8 - 3 * 2) (if (rowB m 2).data.toList.getD (8 - 3 * 2) 0 = 45 then sgnB 2 - 32 else sgnB 2)) = _
              rw [if_neg hz, hug, if_neg hu45]
            refine goT ?_
            refine ⟨2, 0, _, bytesA (rowB m (2 + 1)), rfl, hl, by decide, ?_, ?_⟩
            · rw [hst, ← setB_bytes]
              rfl
            refine goT ?_
            exact LoopEnd_fin 3 [0, 4, 32, 33] 1 hX (by omega) (by omega) rfl rfl rfl rfl ⟨fun i => bytesA_closed _ i, trivial⟩
end Go.Proofs.YtnfbomhhgjlacaaDoor.Abs
