/- Fields of octal digits, fields of texts: octal.*, field.*. -/
import Derived.Test.YtnfbomhhgjlacaaDoorRtree3
import Derived.Test.YtnfbomhhgjlacaaDoorDr12
import Derived.Test.YtnfbomhhgjlacaaDoorDr16
namespace Go.Proofs.YtnfbomhhgjlacaaDoor.Abs
open Go.RowKit Go.MapKept
set_option linter.unusedVariables false
set_option linter.unusedSimpArgs false
set_option maxRecDepth 100000
set_option maxHeartbeats 4000000
theorem of48' {d : Nat} (h : d < 10) : (UInt8.ofNat (48 + d)).toNat = 48 + d := by rw [UInt8.toNat_ofNat']; omega
/-- The greatest number of a field. -/
def mostN (w : Nat) : Nat := 8 ^ (w - 1) - 1
theorem most_ac (w : Nat) (h : w = 7 ∨ w = 8 ∨ w = 12) : AC CX 87 [.v (.int .i64 w)] (.tup [.v (.int .i64 (mostN w)), .v (.int .i64 0)]) := by
  rcases h with rfl | rfl | rfl
  · refine AC_walk ⟨TB, 15, 0, [], []⟩ (fn := Tryd.f87) TB_ok Tryd.func87 rfl rfl rfl rfl rfl (fun _ => rfl) (fun _ => rfl) ?_; intro E hna hX
    refine goT ?_
    refine ⟨by decide, ?_⟩
    rw [show (1 : Int) * 2 ^ (min (3 * (((7 : Nat) : Int) - 1)).toNat IntKind.i64.bits) = 262144 by decide]
    refine goT ?_
    rfl
  · refine AC_walk ⟨TB, 15, 0, [], []⟩ (fn := Tryd.f87) TB_ok Tryd.func87 rfl rfl rfl rfl rfl (fun _ => rfl) (fun _ => rfl) ?_; intro E hna hX
    refine goT ?_
    refine ⟨by decide, ?_⟩
    rw [show (1 : Int) * 2 ^ (min (3 * (((8 : Nat) : Int) - 1)).toNat IntKind.i64.bits) = 2097152 by decide]
    refine goT ?_
    rfl
  · refine AC_walk ⟨TB, 15, 0, [], []⟩ (fn := Tryd.f87) TB_ok Tryd.func87 rfl rfl rfl rfl rfl (fun _ => rfl) (fun _ => rfl) ?_; intro E hna hX
    refine goT ?_
    refine ⟨by decide, ?_⟩
    rw [show (1 : Int) * 2 ^ (min (3 * (((12 : Nat) : Int) - 1)).toNat IntKind.i64.bits) = 8589934592 by decide]
    refine goT ?_
    rfl
/-- The k last octal digits of n. -/
def octD (n : Nat) : Nat → List UInt8
  | 0 => []
  | k + 1 => octD (n / 8) k ++ [UInt8.ofNat (48 + n % 8)]
theorem octD_len : ∀ (k n : Nat), (octD n k).length = k
  | 0, n => rfl
  | k + 1, n => by rw [octD, List.length_append, octD_len k]; rfl
def octL (n w : Nat) : List UInt8 := octD n (w - 1) ++ [0]
theorem octD_cons : ∀ (j n : Nat), octD n (j + 1) = UInt8.ofNat (48 + n / 8 ^ j % 8) :: octD n j
  | 0, n => by simp [octD]
  | j + 1, n => by
    rw [octD, octD_cons j (n / 8), Nat.div_div_eq_div_mul, ← Nat.pow_succ', octD, List.cons_append]
/-- The row behind j steps. -/
def octRow (n w j : Nat) : ByteArray := mkS (List.replicate (w - 1 - j) 0 ++ (octD n j ++ [0]))
theorem octRow_len (n w j : Nat) (h : j + 1 ≤ w) : (bytesA (octRow n w j)).length = w := by
  rw [bytesA_len]
  unfold octRow
  rw [mkS_size, List.length_append, List.length_append, List.length_replicate, octD_len]
  simp
  omega
theorem octRow_zero (n w : Nat) (h : 1 ≤ w) : bytesA (octRow n w 0) = List.replicate w [.v (.int .u8 0)] := by
  unfold octRow bytesA
  rw [mkS_list, octD, List.nil_append, Nat.sub_zero]
  have e : List.replicate (w - 1) (0 : UInt8) ++ [0] = List.replicate w 0 := by
    rw [← List.replicate_succ']
    congr 1
    omega
  rw [e, List.map_replicate]
  rfl
theorem octRow_set (n w j : Nat) (h : j + 2 ≤ w) (x : Int) (hx : x = 48 + (n / 8 ^ j % 8 : Nat)) : (bytesA (octRow n w j)).set (w - 2 - j) [.v (.int .u8 x)] = bytesA (octRow n w (j + 1)) := by
  unfold octRow bytesA
  rw [mkS_list, mkS_list, octD_cons, List.map_append, List.map_append, List.map_append, List.map_replicate, List.map_replicate]
  have e : w - 1 - j = (w - 1 - (j + 1)) + 1 := by omega
  rw [e, List.replicate_succ', List.append_assoc, List.set_append_right _ _ (by simp; omega)]
  congr 1
  have e2 : w - 2 - j - (List.replicate (w - 1 - (j + 1)) ([.v (.int .u8 (((0 : UInt8).toNat : Nat) : Int))] : List AV)).length = 0 := by simp; omega
  have e3 := of48' (d := n / 8 ^ j % 8) (by omega)
  rw [e2, hx]
  simp only [List.cons_append, List.nil_append, List.set_cons_zero, List.map_append, List.map_cons, List.map_nil, e3]
  rfl
theorem wrap8 {x : Int} (h0 : 0 ≤ x) (h1 : x < 256) : IntKind.u8.wrap x = x := by
  show x % 256 = _
  omega
theorem bytesA_cell {s : ByteArray} {k : Nat} {l : List AV} (h : (bytesA s)[k]? = some l) : ∃ u : UInt8, l = [.v (.int .u8 (u.toNat : Int))] ∧ s.data.toList[k]? = some u := by
  unfold bytesA at h
  rw [List.getElem?_map] at h
  obtain ⟨u, h1, h2⟩ := Option.map_eq_some_iff.1 h
  exact ⟨u, h2.symm, h1⟩
/-- octal.Write. -/
theorem octWrite_ac (n w : Nat) (h : w = 7 ∨ w = 8 ∨ w = 12) (hn : n ≤ mostN w) : AC CX 40 [.v (.int .i64 n), .v (.int .i64 w)] (.tup [.v (.string (mkS (octL n w))), .v (.int .i64 0)]) := by
  have hmo := most_ac w h
  have hw : 7 ≤ w ∧ w ≤ 12 := by omega
  have hmw : mostN w ≤ 8589934591 := by rcases h with rfl | rfl | rfl <;> decide
  generalize mostN w = m at *
  refine AC_walk ⟨TB, 44, 0, [], []⟩ (fn := Tryd.f40) TB_ok Tryd.func40 rfl rfl rfl rfl rfl (fun _ => rfl) (fun _ => rfl) ?_; intro E hna hX
  refine goT ?_
  refine ⟨_, hmo, by kernel_rfl, fun _ => rfl, ?_⟩
  refine goT ?_
  refine .inr ⟨w, rfl, rfl, ⟨by omega, by unfold maxLen; omega⟩, ?_⟩
  refine goT ?_
  refine W_loop (fun j : Nat => j ≤ w - 1) (fun j => w - j) (fun j => ⟨[(0, .v (.int .i64 ((n / 8 ^ j : Nat) : Int))), (8, .own 0 1 0 w), (9, .v (.int .i64 ((w : Int) - 2 - (j : Int))))], [.row 5 1 (bytesA (octRow n w j))]⟩) 0 (Nat.zero_le _) (Drops.to [0, 8, 9] (by rw [Nat.pow_zero, Nat.div_one, octRow_zero n w (by omega)]; show St.mk [_, _, (9, AV.v (.int .i64 ((w : Int) - 2)))] _ = St.mk [_, _, (9, AV.v (.int .i64 ((w : Int) - 2 - 0)))] _; rw [Int.sub_zero]; rfl)) ?_
  intro j hj
  have hlen := octRow_len n w j (by omega)
  refine goT ?_
  refine condB_intro (fun h1 => ?_) (fun h1 => ?_)
  · have e1 := of_decide_eq_true h1
    have hset := octRow_set n w j (by omega) (48 + (n / 8 ^ j % 8 : Nat)) rfl
    have hnx : n / 8 ^ (j + 1) = n / 8 ^ j / 8 := by rw [Nat.pow_succ, Nat.div_div_eq_div_mul]
    obtain ⟨l, hlg⟩ := get_lt (l := bytesA (octRow n w j)) (k := w - 2 - j) (by omega)
    obtain ⟨u, rfl, _⟩ := bytesA_cell hlg
    have hql : n / 8 ^ j ≤ n := Nat.div_le_self _ _
    generalize n / 8 ^ j = q at *
    have hm : (q : Int).tmod 8 = ((q % 8 : Nat) : Int) := by rw [Int.tmod_eq_emod_of_nonneg (by omega)]; omega
    have hdv : (q : Int).tdiv 8 = ((q / 8 : Nat) : Int) := by rw [Int.tdiv_eq_ediv_of_nonneg (by omega)]; omega
    have hmm : n ≤ 8589934591 := by omega
    refine goT ?_
    rw [hm]
    refine goT ?_
    refine ⟨w - 2 - j, by omega, by omega, ?_⟩
    refine goT ?_
    refine ⟨w - 2 - j, 0, _, bytesA (octRow n w (j + 1)), by omega, hlg, by decide, ?_, ?_⟩
    · rw [← hset]
      congr 1
      show [AV.v (.int .u8 (IntKind.u8.wrap (48 + IntKind.u8.wrap ((q % 8 : Nat) : Int))))] = _
      rw [wrap8 (x := ((q % 8 : Nat) : Int)) (by omega) (by omega), wrap8 (by omega) (by omega)]
    refine goT ?_
    rw [hdv]
    refine goT ?_
    exact LoopEnd_fin (j + 1) [0, 8, 9] 1 hX (by omega) (by omega) rfl (by rw [hnx, show (w : Int) - 2 - ((j + 1 : Nat) : Int) = (w : Int) - 2 - (j : Int) - 1 by omega]; rfl) rfl rfl ⟨fun i => bytesA_closed _ i, trivial⟩
  · have e1 := of_decide_eq_false h1
    obtain rfl : j = w - 1 := by omega
    have hrow : octRow n w (w - 1) = mkS (octL n w) := by
      unfold octRow octL
      rw [Nat.sub_self]
      rfl
    rw [hrow] at hlen ⊢
    refine goT ?_
    rfl
/-- octal.Read: digits from the left. -/
def octGo (acc : Nat) : List UInt8 → Option Nat
  | [] => none
  | [b] => if b = 0 then some acc else none
  | b :: c :: l => if 48 ≤ b.toNat ∧ b.toNat ≤ 55 then octGo (8 * acc + (b.toNat - 48)) (c :: l) else none
def octRes (l : List UInt8) : AV := match octGo 0 l with
  | some n => .tup [.v (.int .i64 (n : Int)), .v (.int .i64 0)]
  | none => .tup [.v (.int .i64 0), .v (.int .i64 3)]
theorem byteAt_get {s : ByteArray} {k : Nat} {u : UInt8} (h : s.data.toList[k]? = some u) : byteAt s k = (u.toNat : Int) := by
  unfold byteAt
  rw [List.getD_eq_getElem?_getD, h]
  rfl
theorem octRead_ac (s : ByteArray) (h : s.size = 7 ∨ s.size = 8 ∨ s.size = 12) : AC CX 44 [.v (.string s)] (octRes s.data.toList) := by
  have hmo := most_ac s.size h
  have hz : 7 ≤ s.size ∧ s.size ≤ 12 := by omega
  have hsl := size_list s
  have hres : ∀ (i : Nat), (octRes s.data.toList).avoids i = true := fun i => by unfold octRes; split <;> rfl
  generalize mostN s.size = m at *
  refine AC_walk ⟨TB, 49, 0, [], []⟩ (fn := Tryd.f44) TB_ok Tryd.func44 rfl rfl rfl rfl rfl (fun _ => rfl) hres ?_
  intro E hna hX
  refine goT ?_
  refine ⟨_, hmo, by kernel_rfl, fun _ => rfl, ?_⟩
  refine goT ?_
  refine W_loop (fun p : Nat × Nat => p.1 + 1 ≤ s.size ∧ p.2 < 8 ^ p.1 ∧ octGo 0 s.data.toList = octGo p.2 (s.data.toList.drop p.1)) (fun p => s.size - p.1) (fun p => ⟨[(0, .v (.string s)), (6, .v (.int .i64 (p.2 : Int))), (19, .v (.int .i64 ((s.size : Int) - 1))), (20, .v (.int .i64 (p.1 : Int)))], []⟩) (0, 0) ⟨by omega, by decide, rfl⟩ (Drops.to [0, 6, 19, 20] rfl) ?_
  rintro ⟨k, acc⟩ ⟨hk, ha, hg⟩
  have hk : k + 1 ≤ s.size := hk
  have ha : acc < 8 ^ k := ha
  have hp : 8 ^ k ≤ 8 ^ 11 := Nat.pow_le_pow_right (by decide) (by omega)
  have hp2 : (8 : Nat) ^ 11 = 8589934592 := rfl
  have hg : octGo 0 s.data.toList = octGo acc (s.data.toList.drop k) := hg
  obtain ⟨u, hu⟩ := get_lt (l := s.data.toList) (k := k) (by omega)
  have hbu := byteAt_get hu
  have hul := u.toNat_lt
  have hdr : s.data.toList.drop k = u :: s.data.toList.drop (k + 1) := drop_at hu
  rw [hdr] at hg
  dsimp only
  refine goT ?_
  refine condB_intro (fun h1 => ?_) (fun h1 => ?_)
  · have e1 := of_decide_eq_true h1
    obtain ⟨c, l, hcl⟩ : ∃ c l, s.data.toList.drop (k + 1) = c :: l := by
      cases hq : s.data.toList.drop (k + 1) with
      | nil => have := congrArg List.length hq; rw [List.length_drop] at this; simp at this; omega
      | cons c l => exact ⟨c, l, rfl⟩
    rw [hcl, octGo] at hg
    by_cases c1 : u.toNat < 48
    · rw [if_neg (by omega)] at hg
      unfold octRes
      rw [hg]
      refine goT ?_
      rfl
    · by_cases c2 : 55 < u.toNat
      · rw [if_neg (by omega)] at hg
        unfold octRes
        rw [hg]
        refine goT ?_
        rfl
      · rw [if_pos (by omega)] at hg
        have hw : IntKind.u8.wrap (byteAt s k - 48) = byteAt s k - 48 := wrap8 (by omega) (by omega)
        refine goT ?_
        have he : 8 * (acc : Int) + IntKind.u8.wrap (byteAt s k - 48) = ((8 * acc + (u.toNat - 48) : Nat) : Int) := by rw [hw, hbu]; omega
        exact LoopEnd_fin (k + 1, 8 * acc + (u.toNat - 48)) [0, 6, 19, 20] 0 hX ⟨by show k + 1 + 1 ≤ s.size; omega, by show 8 * acc + (u.toNat - 48) < 8 ^ (k + 1); rw [Nat.pow_succ]; omega, by show _ = octGo (8 * acc + (u.toNat - 48)) (s.data.toList.drop (k + 1)); rw [hcl]; exact hg⟩ (by show s.size - (k + 1) < s.size - k; omega) rfl (by rw [← he]; rfl) rfl rfl trivial
  · have e1 := of_decide_eq_false h1
    have hk2 : s.data.toList.drop (k + 1) = [] := List.drop_eq_nil_of_le (by omega)
    rw [hk2, octGo] at hg
    by_cases c1 : u = 0
    · rw [if_pos c1] at hg
      have hb0 : byteAt s k = 0 := by rw [hbu, c1]; rfl
      unfold octRes
      rw [hg]
      refine goT ?_
      refine ⟨k, by omega, by omega, ?_⟩
      refine goT ?_
      rfl
    · rw [if_neg c1] at hg
      have hb0 : ¬ byteAt s k = 0 := by
        rw [hbu]
        intro e
        apply c1
        apply UInt8.toNat_inj.1
        have : (0 : UInt8).toNat = 0 := rfl
        omega
      unfold octRes
      rw [hg]
      refine goT ?_
      refine ⟨k, by omega, by omega, ?_⟩
      refine goT ?_
      rfl
end Go.Proofs.YtnfbomhhgjlacaaDoor.Abs
