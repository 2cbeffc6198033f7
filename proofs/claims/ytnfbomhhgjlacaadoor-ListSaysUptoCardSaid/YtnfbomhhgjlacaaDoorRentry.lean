/- creelkeep.Entry, walked. -/
import Derived.Test.YtnfbomhhgjlacaaDoorRentp
import Derived.Test.YtnfbomhhgjlacaaDoorRmetag
import Derived.Test.YtnfbomhhgjlacaaDoorRent0
import Derived.Test.YtnfbomhhgjlacaaDoorDr19
namespace Go.Proofs.YtnfbomhhgjlacaaDoor.Abs
open Go.RowKit Go.MapKept
set_option linter.unusedVariables false
set_option linter.unusedSimpArgs false
set_option maxRecDepth 100000
set_option maxHeartbeats 4000000
theorem hasSuffix1_ac (s p : ByteArray) (hs : s.size ≤ 1000000000) : AC CX 59 [.v (.string s), .v (.string p)] (.v (.bool (sufF s p))) := by
  refine AC_walk ⟨TB, 21, 0, [], []⟩ (fn := Tryd.f59) TB_ok Tryd.func59 rfl rfl rfl rfl rfl (fun _ => rfl) (fun _ => rfl) ?_; intro E hna hX
  refine goT ?_
  refine condB_intro (fun h1 => ?_) (fun h1 => ?_)
  · have e1 := of_decide_eq_true h1
    refine goT ?_
    refine ⟨s.size - p.size, by omega, ⟨by omega, Nat.le_refl _⟩, ?_⟩
    refine goT ?_
    unfold sufF
    rw [decide_eq_true (by omega), Bool.true_and]
    rfl
  · have e1 := of_decide_eq_false h1
    refine goT ?_
    unfold sufF
    rw [decide_eq_false (by omega), Bool.false_and]
    rfl
theorem hasSuffix_ac (s p : ByteArray) (hs : s.size ≤ 1000000000) : AC CX 20 [.v (.string s), .v (.string p)] (.v (.bool (sufF s p))) := by
  refine AC_walk ⟨TB, 8, 0, [], []⟩ (fn := Tryd.f20) TB_ok Tryd.func20 rfl rfl rfl rfl rfl (fun _ => rfl) (fun _ => rfl) ?_; intro E hna hX
  refine goT ?_
  refine ⟨_, hasSuffix1_ac s p hs, by kernel_rfl, fun _ => rfl, ?_⟩
  refine goT ?_
  rfl
theorem trimSuffix1_ac (s : ByteArray) (hs : s.size ≤ 1000000) : AC CX 94 [.v (.string s), .v (.string ⟨#[47]⟩)] (.v (.string (trimSl s))) := by
  have hsu := hasSuffix1_ac s ⟨#[47]⟩ (by omega)
  have h1s : (⟨#[47]⟩ : ByteArray).size = 1 := rfl
  cases hb : sufF s ⟨#[47]⟩ with
  | true =>
    rw [hb] at hsu
    have h1 : 1 ≤ s.size := by
      unfold sufF at hb
      rw [Bool.and_eq_true] at hb
      have := of_decide_eq_true hb.1
      omega
    obtain ⟨z, hz⟩ : ∃ z, z = s.extract 0 (s.size - 1) := ⟨_, rfl⟩
    have ht : trimSl s = z := by unfold trimSl; rw [if_pos hb, hz]
    rw [ht]
    refine AC_walk ⟨TB, 16, 0, [], []⟩ (fn := Tryd.f94) TB_ok Tryd.func94 rfl rfl rfl rfl rfl (fun _ => rfl) (fun _ => rfl) ?_; intro E hna hX
    refine goT ?_
    refine ⟨_, hsu, by kernel_rfl, fun _ => rfl, ?_⟩
    refine goT ?_
    refine ⟨s.size - 1, by omega, ⟨Nat.zero_le _, by omega⟩, ?_⟩
    rw [← hz]
    refine goT ?_
    rfl
  | false =>
    rw [hb] at hsu
    have ht : trimSl s = s := by unfold trimSl; rw [if_neg (by rw [hb]; decide)]
    rw [ht]
    refine AC_walk ⟨TB, 16, 0, [], []⟩ (fn := Tryd.f94) TB_ok Tryd.func94 rfl rfl rfl rfl rfl (fun _ => rfl) (fun _ => rfl) ?_; intro E hna hX
    refine goT ?_
    refine ⟨_, hsu, by kernel_rfl, fun _ => rfl, ?_⟩
    refine goT ?_
    rfl
theorem trimSuffix_ac (s : ByteArray) (hs : s.size ≤ 1000000) : AC CX 53 [.v (.string s), .v (.string ⟨#[47]⟩)] (.v (.string (trimSl s))) := by
  refine AC_walk ⟨TB, 8, 0, [], []⟩ (fn := Tryd.f53) TB_ok Tryd.func53 rfl rfl rfl rfl rfl (fun _ => rfl) (fun _ => rfl) ?_; intro E hna hX
  refine goT ?_
  refine ⟨_, trimSuffix1_ac s hs, by kernel_rfl, fun _ => rfl, ?_⟩
  refine goT ?_
  rfl
def entKind (r : RawT) : Int := 1 + pickF r.a 4
def entTarget (r : RawT) : ByteArray := ⟨#[116]⟩ ++ repM ⟨#[117]⟩ (pickF r.c 150)
def entData (r : RawT) : ByteArray := repM (cleanF r.s 40) (pickF r.c 40)
def entryF (r : RawT) : EntT := ⟨entPath r.b (pickF r.c 5).toNat, entKind r, if 3 ≤ entKind r then entTarget r else ⟨#[]⟩, metaF r, if entKind r = 1 then entData r else ⟨#[]⟩⟩
theorem wrap64_in (x : Int) : isI (IntKind.i64.wrap x) := by
  unfold isI
  rw [IntKind.wrap_i64]
  omega
theorem entry_ac (r : RawT) (h : RawGood r) : AC CX 17 [.agg (encRaw r)] (.agg (encE (entryF r))) := by
  have hme := meta_ac r h
  obtain ⟨ha, hb, hc, hs⟩ := h
  have k1 := picked_ac r.b 11 hb (by decide)
  have k2 := picked_ac r.a 4 ha (by decide)
  have k3 := picked_ac r.c 5 hc (by decide)
  have k4 := picked_ac r.c 40 hc (by decide)
  have k5 := picked_ac r.c 150 hc (by decide)
  have p1 := pick_lt (n := r.b) (m := 11) (by decide)
  have p2 := pick_lt (n := r.a) (m := 4) (by decide)
  have p3 := pick_lt (n := r.c) (m := 5) (by decide)
  have p4 := pick_lt (n := r.c) (m := 40) (by decide)
  have p5 := pick_lt (n := r.c) (m := 150) (by decide)
  have hn0 := nm_get r.b
  have hcl := clean_ac r.s 40 (by omega) (by decide)
  have hcs := clean_size r.s 40
  have h40 : (40 : Int).toNat = 40 := rfl
  have hre := repeat_ac (cleanF r.s 40) (pickF r.c 40) p4.1 (Nat.le_trans (Nat.mul_le_mul (show (cleanF r.s 40).size ≤ 40 by omega) (show (pickF r.c 40).toNat ≤ 40 by omega)) (by decide)) (by omega)
  have hru := repeat_ac ⟨#[117]⟩ (pickF r.c 150) p5.1 (Nat.le_trans (Nat.mul_le_mul (show (⟨#[117]⟩ : ByteArray).size ≤ 1 from Nat.le_refl _) (show (pickF r.c 150).toNat ≤ 150 by omega)) (by decide)) (by omega)
  have hrus : (mkS (Lib.repeatL (⟨#[117]⟩ : ByteArray).data.toList (pickF r.c 150).toNat)).size ≤ 150 := by
    rw [mkS_size, Lib.repeatL_length, size_list, show (⟨#[117]⟩ : ByteArray).size = 1 from rfl]
    omega
  have h116 : (⟨#[116]⟩ : ByteArray).size = 1 := rfl
  unfold entryF
  generalize metaF r = mt at *
  obtain ⟨m, hm⟩ : ∃ m : Nat, pickF r.c 5 = (m : Int) := ⟨(pickF r.c 5).toNat, by omega⟩
  rw [hm, Int.toNat_natCast]
  rw [hm] at k3
  refine AC_walk ⟨TB, 77, 0, [], []⟩ (fn := Tryd.f17) TB_ok Tryd.func17 rfl rfl rfl rfl rfl (fun _ => rfl) (fun _ => rfl) ?_; intro E hna hX
  refine goT ?_
  refine W_draw hX (n := 16) (follows_mixed Tryd.checked) (ws := [[], [], [(1, 6)], [(0, 5)], [(3, 8)], [(2, 7), (3, 8), (4, 9)], [(0, 5), (5, 10)], [(6, 11)], [], [(8, 13)], [(5, 10), (9, 14)], [(10, 15)], [], [(10, 15), (12, 17)], [(7, 12), (11, 16), (13, 18)], []]) (ds := [5, 6, 7, 8, 9, 10, 11, 12, 13, 14, 15, 16, 17, 18, 19, 3]) (bi := [15]) (wa := [(0, 5), (1, 6), (2, 7), (3, 8), (4, 9), (5, 10), (6, 11), (7, 12), (8, 13), (9, 14), (10, 15), (11, 16), (12, 17), (13, 18), (14, 19), (15, 3)]) ⟨by kernel_rfl, by kernel_rfl, by kernel_rfl, by kernel_rfl, by decide, by kernel_rfl, by kernel_rfl, rfl, by decide, rfl⟩ ?_
  refine ⟨_, names_ac, by kernel_rfl, fun _ => rfl, ?_⟩
  refine goT ?_
  refine ⟨_, names_ac, by kernel_rfl, fun _ => rfl, ?_⟩
  refine goT ?_
  refine ⟨_, k1, by kernel_rfl, fun _ => rfl, ?_⟩
  refine goT ?_
  refine ⟨(pickF r.b 11).toNat, by omega, _, get_mapN hn0, ?_⟩
  refine goT ?_
  refine ⟨_, k2, by kernel_rfl, fun _ => rfl, ?_⟩
  refine goT ?_
  refine ⟨_, hme, by kernel_rfl, fun _ => rfl, ?_⟩
  repeat (first | ((with_reducible show W _ _ _ _ _ _); first | refine W_seq ?_ | refine W_block ?_ | refine W_regionB hX 2 rfl ?_ | refine W_cond ?_ | refine W_skip ?_ | refine W_exit ?_ | refine W_ret ?_) | ((fail_if_success (with_reducible show W _ _ _ _ _ _)); show W _ _ _ _ _ _) | refine andA ?_ | refine condT ?_ | refine condF ?_ | refine exB ?_ | refine exL ?_ | refine Exists.intro _ (And.intro rfl ?_) | refine Exists.intro _ (And.intro (get_mapN (by assumption)) ?_) | ((fail_if_success (with_reducible show LoopEnd _ _ _ _ _ _ _)); show LoopEnd _ _ _ _ _ _ _) | ((fail_if_success (with_reducible show JoinEnd _ _ _ _ _)); show JoinEnd _ _ _ _ _) | ((fail_if_success (with_reducible show JoinG _ _ _ _ _)); show JoinG _ _ _ _ _))
  refine W_nilBoxRow 2 10 1 rfl rfl ?_
  refine goT ?_
  refine ⟨_, k3, by kernel_rfl, fun _ => rfl, ?_⟩
  refine goT ?_
  refine W_loop (fun k : Nat => k ≤ m) (fun k => m - k) (fun k => ⟨[(1, .ptr 0 0), (2, .ptr 1 0), (3, .ptr 2 0), (22, .v (.int .i64 m)), (23, .v (.int .i64 k))], [.cells 23 (encRaw r), .cells 42 [.v (.string ⟨#[]⟩), .v (.int .i64 0), .v (.string ⟨#[]⟩), .v (.int .i64 0), .v (.int .i64 0), .v (.int .i64 0), .v (.string ⟨#[]⟩), .v (.string ⟨#[]⟩), .v (.int .i64 0), .v (.int .i64 0), .v (.slice none 0 0)], .cells 42 [.v (.string (pathK r.b k)), .v (.int .i64 (1 + pickF r.a 4)), .v (.string ⟨#[]⟩), .v (.int .i64 mt.mode), .v (.int .i64 mt.uid), .v (.int .i64 mt.gid), .v (.string mt.user), .v (.string mt.group), .v (.int .i64 mt.second), .v (.int .i64 mt.nano), .row 1 []]]⟩) 0 (Nat.zero_le _) (Drops.to [1, 2, 3, 22, 23] rfl) ?_
  intro k hk
  have hpk := pathK_good r.b k
  refine goT ?_
  refine condB_intro (fun h1 => ?_) (fun h1 => ?_)
  · have e1 := of_decide_eq_true h1
    have hpk2 := pathK_good r.b (k + 1)
    have hw := wrap64_in (r.b + (k : Int))
    have hn1 := nm_get (IntKind.i64.wrap (r.b + (k : Int)))
    have hns := names_good _ (List.mem_of_getElem? hn1)
    have k6 := picked_ac (IntKind.i64.wrap (r.b + (k : Int))) 11 hw (by decide)
    have p6 := pick_lt (n := IntKind.i64.wrap (r.b + (k : Int))) (m := 11) (by decide)
    have s1 : (⟨#[47]⟩ : ByteArray).size = 1 := rfl
    have s2 : (⟨#[47]⟩ ++ nmF (IntKind.i64.wrap (r.b + (k : Int)))).size = (nmF (IntKind.i64.wrap (r.b + (k : Int)))).size + 1 := by rw [ByteArray.size_append, s1]; omega
    have hpe : pathK r.b (k + 1) = pathK r.b k ++ (⟨#[47]⟩ ++ nmF (IntKind.i64.wrap (r.b + (k : Int)))) := rfl
    refine goT ?_
    refine W_drawY hX [6] (n := 15) (follows_mixed Tryd.checked) (ws := [[], [(0, 26)], [], [], [(3, 29)], [], [(4, 30), (5, 31)], [(2, 28)], [(7, 33)], [(6, 32), (7, 33), (8, 34)], [(2, 28), (9, 35)], [(10, 36)], [(11, 37)], [(1, 27), (12, 38)], [(0, 26), (1, 27), (2, 28), (3, 29), (4, 30), (5, 31), (6, 32), (7, 33), (8, 34), (9, 35), (10, 36), (11, 37), (12, 38), (13, 39)]]) (ds := [26, 27, 28, 29, 30, 31, 32, 33, 34, 35, 36, 37, 38, 39, 40]) (bi := []) (wa := [(0, 26), (1, 27), (2, 28), (3, 29), (4, 30), (5, 31), (6, 32), (7, 33), (8, 34), (9, 35), (10, 36), (11, 37), (12, 38), (13, 39), (14, 40)]) ⟨by kernel_rfl, by kernel_rfl, by kernel_rfl, by kernel_rfl, by decide, by kernel_rfl, by kernel_rfl, rfl, by decide, rfl⟩ ?_
    refine ⟨_, names_ac, by kernel_rfl, fun _ => rfl, ?_⟩
    refine goT ?_
    refine ⟨_, fun E => Y_addW rfl rfl rfl, ?_⟩
    refine goT ?_
    refine ⟨_, names_ac, by kernel_rfl, fun _ => rfl, ?_⟩
    refine goT ?_
    refine ⟨_, k6, by kernel_rfl, fun _ => rfl, ?_⟩
    refine goT ?_
    refine ⟨(pickF (IntKind.i64.wrap (r.b + (k : Int))) 11).toNat, by omega, _, get_mapN hn1, ?_⟩
    refine goT ?_
    exact LoopEnd_fin (k + 1) [1, 2, 3, 22, 23] 3 hX (by omega) (by omega) rfl rfl rfl rfl ⟨rfl, rfl, rfl, trivial⟩
  · have e1 := of_decide_eq_false h1
    obtain rfl : k = m := by omega
    have hc1 := cut400_good hpk.1 (pathK_pos r.b k)
    have hts := trimSuffix_ac (cut400 (pathK r.b k)) (by omega)
    have hep : entPath r.b k = trimSl (cut400 (pathK r.b k)) := rfl
    rw [hep]
    refine goT ?_
    refine cnd_join True ⟨[(1, .ptr 0 0), (2, .ptr 1 0), (3, .ptr 2 0)], [.cells 23 (encRaw r), .cells 42 [.v (.string ⟨#[]⟩), .v (.int .i64 0), .v (.string ⟨#[]⟩), .v (.int .i64 0), .v (.int .i64 0), .v (.int .i64 0), .v (.string ⟨#[]⟩), .v (.string ⟨#[]⟩), .v (.int .i64 0), .v (.int .i64 0), .v (.slice none 0 0)], .cells 42 [.v (.string (cut400 (pathK r.b k))), .v (.int .i64 (1 + pickF r.a 4)), .v (.string ⟨#[]⟩), .v (.int .i64 mt.mode), .v (.int .i64 mt.uid), .v (.int .i64 mt.gid), .v (.string mt.user), .v (.string mt.group), .v (.int .i64 mt.second), .v (.int .i64 mt.nano), .row 1 []]]⟩ ?_ ?_
    · refine condB_intro (fun h4 => ?_) (fun h4 => ?_)
      · have e4 := of_decide_eq_true h4
        have hcz : cut400 (pathK r.b k) = (pathK r.b k).extract 0 100 := if_pos (by omega)
        rw [hcz]
        refine goT ?_
        exact ⟨trivial, Drops.to [1, 2, 3] rfl⟩
      · have e4 := of_decide_eq_false h4
        have hcz : cut400 (pathK r.b k) = pathK r.b k := if_neg (by omega)
        rw [hcz]
        refine goT ?_
        exact ⟨trivial, Drops.to [1, 2, 3] rfl⟩
    intro _
    generalize cut400 (pathK r.b k) = cp at *
    unfold entKind
    obtain ⟨q, hq⟩ : ∃ q, q = pickF r.a 4 := ⟨_, rfl⟩
    rw [← hq] at p2 ⊢
    clear hpk k1 k2 k3 hn0 hm hc1 hep hme
    rcases (show q = 0 ∨ q = 1 ∨ q = 2 ∨ q = 3 by omega) with rfl | rfl | rfl | rfl
    · refine goT ?_
      refine ⟨_, hts, by kernel_rfl, fun _ => rfl, ?_⟩
      refine goT ?_
      refine W_draw hX (n := 9) (follows_mixed Tryd.checked) (ws := [[], [(0, 58)], [(1, 59)], [], [(3, 61)], [(2, 60), (4, 62)], [(2, 60), (5, 63)], [(6, 64)], [(0, 58), (1, 59), (2, 60), (3, 61), (4, 62), (5, 63), (6, 64), (7, 65)]]) (ds := [58, 59, 60, 61, 62, 63, 64, 65, 66]) (bi := []) (wa := [(0, 58), (1, 59), (2, 60), (3, 61), (4, 62), (5, 63), (6, 64), (7, 65), (8, 66)]) ⟨by kernel_rfl, by kernel_rfl, by kernel_rfl, by kernel_rfl, by decide, by kernel_rfl, by kernel_rfl, rfl, by decide, rfl⟩ ?_
      refine goT ?_
      refine ⟨_, hcl, by kernel_rfl, fun _ => rfl, ?_⟩
      refine goT ?_
      refine ⟨_, k4, by kernel_rfl, fun _ => rfl, ?_⟩
      refine goT ?_
      refine ⟨_, hre, by kernel_rfl, fun _ => rfl, ?_⟩
      refine goT ?_
      rfl
    · refine goT ?_
      refine ⟨_, hts, by kernel_rfl, fun _ => rfl, ?_⟩
      refine goT ?_
      rfl
    · refine goT ?_
      refine ⟨_, hts, by kernel_rfl, fun _ => rfl, ?_⟩
      refine goT ?_
      refine ⟨_, k5, by kernel_rfl, fun _ => rfl, ?_⟩
      refine goT ?_
      refine ⟨_, hru, by kernel_rfl, fun _ => rfl, ?_⟩
      refine goT ?_
      rfl
    · refine goT ?_
      refine ⟨_, hts, by kernel_rfl, fun _ => rfl, ?_⟩
      refine goT ?_
      refine ⟨_, k5, by kernel_rfl, fun _ => rfl, ?_⟩
      refine goT ?_
      refine ⟨_, hru, by kernel_rfl, fun _ => rfl, ?_⟩
      refine goT ?_
      rfl
end Go.Proofs.YtnfbomhhgjlacaaDoor.Abs
