/- Turned: bytes one of which is another one. -/
import Derived.Test.YtnfbomhhgjlacaaDoorRoct
import Derived.Test.YtnfbomhhgjlacaaDoorRpad
namespace Go.Proofs.YtnfbomhhgjlacaaDoor.Abs
open Go.RowKit Go.MapKept
set_option linter.unusedVariables false
set_option linter.unusedSimpArgs false
set_option maxRecDepth 100000
set_option maxHeartbeats 4000000
theorem cloneB_acb (s : ByteArray) (hs : s.size ≤ 1000000000) : ACB CX 50 [.row 1 (bytesA s)] [] (.own 0 1 0 s.size) [.row 5 1 (bytesA s)] := by
  have hl := bytesA_len s
  refine ACB_walk ⟨TB, 8, 0, [], [5]⟩ (fn := Tryd.f50) TB_ok Tryd.func50 rfl rfl rfl rfl (fun i h => by cases h) rfl ?_; intro E hX
  refine goT ?_
  refine fun b hb => ?_
  refine goT ?_
  cases b
  · refine goT ?_
    refine ⟨s.size, bytesA s, by rw [bytesA_len]; omega, rfl, ?_⟩
    refine goT ?_
    exact ⟨[], rfl⟩
  · have hx : bytesA s = [] := by
      by_cases e : bytesA s = []
      · exact e
      · exact absurd (hb e) (by decide)
    have h0 : s.size = 0 := by rw [← hl, hx]; rfl
    rw [h0, hx]
    repeat (first | ((with_reducible show W _ _ _ _ _ _); first | refine W_seq ?_ | refine W_block ?_ | refine W_region hX ?_ | refine W_cond ?_ | refine W_skip ?_ | refine W_exit ?_) | ((fail_if_success (with_reducible show W _ _ _ _ _ _)); show W _ _ _ _ _ _) | refine andA ?_ | refine condT ?_ | refine condF ?_ | refine exB ?_ | refine exL ?_ | refine Exists.intro _ (And.intro rfl ?_) | refine Exists.intro _ (And.intro (get_mapN (by assumption)) ?_) | ((fail_if_success (with_reducible show LoopEnd _ _ _ _ _ _ _)); show LoopEnd _ _ _ _ _ _ _) | ((fail_if_success (with_reducible show JoinEnd _ _ _ _ _)); show JoinEnd _ _ _ _ _) | ((fail_if_success (with_reducible show JoinG _ _ _ _ _)); show JoinG _ _ _ _ _))
    refine W_nilOwn hX 2 5 1 rfl rfl ?_
    refine goT ?_
    exact ⟨[], rfl⟩
/-- The byte that another one is turned to. -/
def turnU (u y : UInt8) : UInt8 := u ^^^ (if y = 0 then 1 else y)
def turnB (b : ByteArray) (k : Nat) (y : UInt8) : ByteArray := mkS (b.data.toList.set k (turnU (b.data.toList.getD k 0) y))
theorem turnU_ne (u y : UInt8) : turnU u y ≠ u := by
  unfold turnU
  intro h
  have h2 : ∀ m : UInt8, u ^^^ m = u → m = 0 := fun m hm => by
    have : u ^^^ (u ^^^ m) = u ^^^ u := by rw [hm]
    rw [← UInt8.xor_assoc, UInt8.xor_self, UInt8.zero_xor] at this
    exact this
  have h3 := h2 _ h
  split at h3
  · cases h3
  · contradiction
theorem turnB_size (b : ByteArray) (k : Nat) (y : UInt8) : (turnB b k y).size = b.size := by
  unfold turnB
  rw [mkS_size, List.length_set, size_list]
theorem bitsI_xor (u m : UInt8) : bitsI .xor .u8 (u.toNat : Int) (m.toNat : Int) = ((u ^^^ m).toNat : Int) := by
  show IntKind.u8.wrap ((BitVec.ofInt 8 (u.toNat : Int) ^^^ BitVec.ofInt 8 (m.toNat : Int)).toNat : Int) = _
  have h1 : BitVec.ofInt 8 (u.toNat : Int) = u.toBitVec := by
    apply BitVec.eq_of_toNat_eq
    rw [BitVec.toNat_ofInt]
    have := u.toNat_lt
    show ((u.toNat : Int) % 256).toNat = u.toNat
    omega
  have h2 : BitVec.ofInt 8 (m.toNat : Int) = m.toBitVec := by
    apply BitVec.eq_of_toNat_eq
    rw [BitVec.toNat_ofInt]
    have := m.toNat_lt
    show ((m.toNat : Int) % 256).toNat = m.toNat
    omega
  rw [h1, h2]
  have h3 : (u ^^^ m).toNat = (u.toBitVec ^^^ m.toBitVec).toNat := rfl
  rw [h3]
  have h4 := (u ^^^ m).toNat_lt
  rw [h3] at h4
  exact wrap8 (by omega) (by omega)
theorem turned_ac (b : ByteArray) (hb : b.size ≤ 1000000) (h1 : 1 ≤ b.size) (at' : Int) (ha : isI at') (y : UInt8) : AC CX 16 [.row 1 (bytesA b), .v (.int .i64 at'), .v (.int .u8 (y.toNat : Int))] (.row 1 (bytesA (turnB b (pickF at' b.size).toNat y))) := by
  have hcl := cloneB_acb b (by omega)
  have hp := pick_lt (n := at') (m := b.size) (by omega)
  have hpk := picked_ac at' b.size ha (by omega)
  obtain ⟨k, hk⟩ : ∃ k : Nat, pickF at' b.size = (k : Int) := ⟨(pickF at' b.size).toNat, by omega⟩
  rw [hk] at hpk hp ⊢
  rw [Int.toNat_natCast]
  have hbl := bytesA_len b
  have hyl := y.toNat_lt
  obtain ⟨u, hu⟩ := get_lt (l := b.data.toList) (k := k) (by rw [size_list]; omega)
  have hug : (bytesA b)[k]? = some [.v (.int .u8 (u.toNat : Int))] := by unfold bytesA; rw [List.getElem?_map, hu]; rfl
  have hlens : ∀ q ∈ bytesA b, q.length = 1 := fun q hq => by unfold bytesA at hq; obtain ⟨_, _, rfl⟩ := List.mem_map.1 hq; rfl
  refine AC_walk ⟨TB, 25, 0, [], []⟩ (fn := Tryd.f16) TB_ok Tryd.func16 rfl rfl rfl rfl rfl (fun _ => rfl) (fun _ => rfl) ?_; intro E hna hX
  repeat (first | ((with_reducible show W _ _ _ _ _ _); first | refine W_seq ?_ | refine W_block ?_ | refine W_regionB hX 1 rfl ?_ | refine W_cond ?_ | refine W_skip ?_ | refine W_exit ?_ | refine W_ret ?_) | ((fail_if_success (with_reducible show W _ _ _ _ _ _)); show W _ _ _ _ _ _) | refine andA ?_ | refine condT ?_ | refine condF ?_ | refine exB ?_ | refine exL ?_ | refine Exists.intro _ (And.intro rfl ?_) | refine Exists.intro _ (And.intro (get_mapN (by assumption)) ?_) | ((fail_if_success (with_reducible show LoopEnd _ _ _ _ _ _ _)); show LoopEnd _ _ _ _ _ _ _) | ((fail_if_success (with_reducible show JoinEnd _ _ _ _ _)); show JoinEnd _ _ _ _ _) | ((fail_if_success (with_reducible show JoinG _ _ _ _ _)); show JoinG _ _ _ _ _))
  refine W_regionN hX 1 ?_
  refine goT ?_
  refine ⟨[], _, _, _, _, ⟨hcl, by kernel_rfl, rfl, rfl, rfl, by decide, rfl, Nat.zero_le _, rfl, balln, ballc (cB b) balln, rfl, fun j hj => (by cases hj), fun j hj => (by cases hj)⟩, ?_⟩
  repeat (first | ((with_reducible show W _ _ _ _ _ _); first | refine W_seq ?_ | refine W_block ?_ | refine W_regionB hX 2 rfl ?_ | refine W_cond ?_ | refine W_skip ?_ | refine W_exit ?_ | refine W_ret ?_) | ((fail_if_success (with_reducible show W _ _ _ _ _ _)); show W _ _ _ _ _ _) | refine andA ?_ | refine condT ?_ | refine condF ?_ | refine exB ?_ | refine exL ?_ | refine Exists.intro _ (And.intro rfl ?_) | refine Exists.intro _ (And.intro (get_mapN (by assumption)) ?_) | ((fail_if_success (with_reducible show LoopEnd _ _ _ _ _ _ _)); show LoopEnd _ _ _ _ _ _ _) | ((fail_if_success (with_reducible show JoinEnd _ _ _ _ _)); show JoinEnd _ _ _ _ _) | ((fail_if_success (with_reducible show JoinG _ _ _ _ _)); show JoinG _ _ _ _ _))
  refine W_drops (st' := ⟨[(7, .own 0 1 0 b.size), (1, .v (.int .i64 at')), (2, .v (.int .u8 (y.toNat : Int)))], [.row 5 1 (bytesA b)]⟩) (Drops.to [7, 1, 2] rfl) ?_
  have hval : bitsI .xor .u8 (u.toNat : Int) (if (1 : Int) > (y.toNat : Int) then (1 : Int) else (y.toNat : Int)) = ((turnU u y).toNat : Int) := by
    unfold turnU
    by_cases hy0 : y = 0
    · subst hy0
      rw [if_pos rfl, if_pos (by decide)]
      exact bitsI_xor u 1
    · have : y.toNat ≠ 0 := fun e => hy0 (UInt8.toNat_inj.1 e)
      rw [if_neg hy0, if_neg (by omega)]
      exact bitsI_xor u y
  have hset : (bytesA b).set k [.v (.int .u8 ((turnU u y).toNat : Int))] = bytesA (turnB b k y) := by
    unfold turnB bytesA
    rw [mkS_list, List.map_set, List.getD_eq_getElem?_getD, hu]
    rfl
  refine goT ?_
  refine ⟨_, hpk, by kernel_rfl, fun _ => rfl, ?_⟩
  refine goT ?_
  refine ⟨k, 0, _, by omega, hug, hlens, ?_⟩
  refine goT ?_
  refine ⟨k, 0, _, bytesA (turnB b k y), by omega, hug, by decide, ?_, ?_⟩
  · rw [← hset, ← hval]
    rfl
  repeat (first | ((with_reducible show W _ _ _ _ _ _); first | refine W_seq ?_ | refine W_block ?_ | refine W_regionB hX 4 rfl ?_ | refine W_cond ?_ | refine W_skip ?_ | refine W_exit ?_ | refine W_ret ?_) | ((fail_if_success (with_reducible show W _ _ _ _ _ _)); show W _ _ _ _ _ _) | refine andA ?_ | refine condT ?_ | refine condF ?_ | refine exB ?_ | refine exL ?_ | refine Exists.intro _ (And.intro rfl ?_) | refine Exists.intro _ (And.intro (get_mapN (by assumption)) ?_) | ((fail_if_success (with_reducible show LoopEnd _ _ _ _ _ _ _)); show LoopEnd _ _ _ _ _ _ _) | ((fail_if_success (with_reducible show JoinEnd _ _ _ _ _)); show JoinEnd _ _ _ _ _) | ((fail_if_success (with_reducible show JoinG _ _ _ _ _)); show JoinG _ _ _ _ _))
  refine W_freeze hna 0 [7] rfl (fun t ht => by simp at ht; subst ht; rfl) (by rw [bytesA_len, turnB_size]) (cB _) True.intro rfl ?_
  refine goT ?_
  rfl
end Go.Proofs.YtnfbomhhgjlacaaDoor.Abs
