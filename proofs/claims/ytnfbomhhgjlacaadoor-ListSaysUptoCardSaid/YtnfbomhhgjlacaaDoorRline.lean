/- list.Line, walked. -/
import Derived.Test.YtnfbomhhgjlacaaDoorRdate
import Derived.Test.YtnfbomhhgjlacaaDoorRmetat
import Derived.Test.YtnfbomhhgjlacaaDoorRentry
namespace Go.Proofs.YtnfbomhhgjlacaaDoor.Abs
open Go.RowKit Go.MapKept
set_option linter.unusedVariables false
set_option linter.unusedSimpArgs false
set_option maxRecDepth 100000
set_option maxHeartbeats 4000000
def kindsS : ByteArray := ⟨#[63, 45, 100, 108, 104]⟩
def tailB (x : EntT) : ByteArray := if x.kind = 3 then ⟨#[32, 45, 62, 32]⟩ ++ x.target else if x.kind = 4 then ⟨#[32, 108, 105, 110, 107, 32, 116, 111, 32]⟩ ++ x.target else ⟨#[]⟩
theorem tail_size (x : EntT) (h : x.target.size ≤ 400) : (tailB x).size ≤ 409 := by
  unfold tailB
  split
  · rw [ByteArray.size_append, show (⟨#[32, 45, 62, 32]⟩ : ByteArray).size = 4 from rfl]; omega
  · split
    · rw [ByteArray.size_append, show (⟨#[32, 108, 105, 110, 107, 32, 116, 111, 32]⟩ : ByteArray).size = 9 from rfl]; omega
    · exact Nat.zero_le _
theorem kc_size (k : Nat) (h : k ≤ 4) : (kindsS.extract k (k + 1)).size = 1 := by
  rw [← size_list, ext_listE, List.length_drop, List.length_take, size_list]
  have : kindsS.size = 5 := rfl
  omega
theorem sz_help {c0 c1 c2 c3 c4 c5 c6 c7 c8 w1 w2 w3 w4 w5 w6 w7 w8 : Nat} (h0 : c0 = 11) (h1 : c1 = c0 + w1 + 1) (h2 : c2 = c1 + w2 + 1) (h3 : c3 = c2 + w3 + 1) (h4 : c4 = c3 + w4 + 1) (h5 : c5 = c4 + w5 + 1) (h6 : c6 = c5 + w6 + 1) (h7 : c7 = c6 + w7 + 1) (h8 : c8 = c7 + w8 + 1) (k1 : w1 ≤ 60) (k2 : w2 ≤ 60) (k3 : w3 ≤ 19) (k4 : w4 ≤ 19) (k5 : w5 ≤ 40) (k6 : w6 ≤ 40) (k7 : w7 ≤ 40) (k8 : w8 ≤ 40) : c8 ≤ 400 ∧ c7 ≤ 400 ∧ c6 ≤ 400 ∧ c5 ≤ 400 ∧ c4 ≤ 400 ∧ c3 ≤ 400 ∧ c2 ≤ 400 ∧ c1 ≤ 400 ∧ c0 ≤ 400 := by omega
theorem le_of_succ {a b c : Nat} (h : c = a + b + 1) (h2 : c ≤ 400) : a + b ≤ 400 := by omega
theorem add3 {a b c : Nat} (h1 : a ≤ 400) (h2 : b ≤ 400) (h3 : c ≤ 409) : a + b + c ≤ 3000 := by omega
set_option maxHeartbeats 40000000 in
theorem line_ex (x : EntT) (hg : EntGood x) (h0 : -34359738368 ≤ x.mt.second) (h1 : x.mt.second ≤ 34359738368) : ∃ s R Q : ByteArray, AC CX 18 [.agg (encE x)] (.tup [.v (.string s), .v (.int .i64 0)]) ∧ s = kindsS.extract x.kind.toNat (x.kind.toNat + 1) ++ (rowB x.mt.mode 3 ++ (⟨#[32]⟩ ++ R)) ∧ s = Q ++ (⟨#[32]⟩ ++ (x.path ++ tailB x)) ∧ s.size ≤ 3000 := by
  have hpr := pright_ac x hg
  have hmt := hg.mt
  obtain ⟨kN, hkN⟩ : ∃ k : Nat, x.kind = (k : Int) := ⟨x.kind.toNat, by have := hg.kind; omega⟩
  have hk := hg.kind
  have hp4 := pathChk_size hg.path
  have ht4 := hg.tsize
  have hds := hg.dsize
  have htx := metaText_ac x.mt.mode hmt.mode.1 hmt.mode.2
  have hrs := rowB_size x.mt.mode 3
  obtain ⟨Y, M, D, b1, b2, b3, hday⟩ := day_ex x.mt.second h0 h1
  obtain ⟨uN, huN⟩ : ∃ k : Nat, x.mt.uid = (k : Int) := ⟨x.mt.uid.toNat, by have := hmt.uid; omega⟩
  obtain ⟨gN, hgN⟩ : ∃ k : Nat, x.mt.gid = (k : Int) := ⟨x.mt.gid.toNat, by have := hmt.gid; omega⟩
  have hub := hmt.uid
  have hgb := hmt.gid
  obtain ⟨W1, zW1, cW1⟩ := who_ex x.mt.user uN hmt.user (by omega)
  obtain ⟨W2, zW2, cW2⟩ := who_ex x.mt.group gN hmt.group (by omega)
  rw [← huN] at cW1
  rw [← hgN] at cW2
  obtain ⟨T1, zT1, cT1⟩ := two_ex M (by omega)
  obtain ⟨T2, zT2, cT2⟩ := two_ex D (by omega)
  obtain ⟨L, hL1, hL2⟩ : ∃ L : Nat, L < 86400 ∧ (L : Int) = if x.mt.second.tmod 86400 < 0 then x.mt.second.tmod 86400 + 86400 else x.mt.second.tmod 86400 := by
    have hlt := Int.tmod_lt_of_pos x.mt.second (show (0 : Int) < 86400 by decide)
    have hgt : -86400 < x.mt.second.tmod 86400 := by
      rcases Int.lt_or_le x.mt.second 0 with hs | hs
      · have e1 : x.mt.second = -(-x.mt.second) := by omega
        have := Int.tmod_lt_of_pos (-x.mt.second) (show (0 : Int) < 86400 by decide)
        rw [e1, Int.neg_tmod]
        omega
      · have := Int.tmod_nonneg 86400 hs
        omega
    split
    · exact ⟨(x.mt.second.tmod 86400 + 86400).toNat, by omega, by omega⟩
    · exact ⟨(x.mt.second.tmod 86400).toNat, by omega, by omega⟩
  have hL3 : (L : Int) < 86400 := by omega
  obtain ⟨rm, hrm⟩ : ∃ r, x.mt.second.tmod 86400 = r := ⟨_, rfl⟩
  rw [hrm] at hL2
  have hrb : -86400 ≤ rm ∧ rm < 86400 := by split at hL2 <;> omega
  have hkr : kN ≤ 4 := by omega
  obtain ⟨T3, zT3, cT3⟩ := two_ex (L / 3600) (by omega)
  obtain ⟨T4, zT4, cT4⟩ := two_ex (L / 60 % 60) (by omega)
  have gL1 : (L : Int).tdiv 3600 = ((L / 3600 : Nat) : Int) := by rw [tdv (by omega)]; omega
  have gL2 : (L : Int).tdiv 60 = ((L / 60 : Nat) : Int) := by rw [tdv (by omega)]; omega
  have gL3 : ((L / 60 : Nat) : Int).tmod 60 = ((L / 60 % 60 : Nat) : Int) := by rw [Int.tmod_eq_emod_of_nonneg (by omega)]; omega
  obtain ⟨I1, hI1⟩ : ∃ s, s = mkS (Lib.decDigits x.data.size) := ⟨_, rfl⟩
  obtain ⟨I2, hI2⟩ : ∃ s, s = mkS (Lib.decDigits Y) := ⟨_, rfl⟩
  have cI1 := itoa_ac x.data.size (by omega)
  have cI2 := itoa_ac Y (by omega)
  rw [← hI1] at cI1
  rw [← hI2] at cI2
  have zI1 : I1.size ≤ 19 := by rw [hI1, mkS_size]; exact dd_len 18 _ (by omega)
  have zI2 : I2.size ≤ 19 := by rw [hI2, mkS_size]; exact dd_len 18 _ (by omega)
  have hkc := kc_size kN (by omega)
  obtain ⟨kc, ekc⟩ : ∃ s, s = kindsS.extract kN (kN + 1) := ⟨_, rfl⟩
  rw [← ekc] at hkc
  have q47 : (⟨#[47]⟩ : ByteArray).size = 1 := rfl
  have q32 : (⟨#[32]⟩ : ByteArray).size = 1 := rfl
  have q45 : (⟨#[45]⟩ : ByteArray).size = 1 := rfl
  have q58 : (⟨#[58]⟩ : ByteArray).size = 1 := rfl
  have y0 : (kc ++ rowB x.mt.mode 3).size = 10 := by rw [ByteArray.size_append, hkc, hrs]
  obtain ⟨c0, e0⟩ : ∃ c, kc ++ rowB x.mt.mode 3 ++ ⟨#[32]⟩ = c := ⟨_, rfl⟩
  have z0 : c0.size = 11 := by rw [← e0, ByteArray.size_append, y0]; rfl
  have d0 : (kc ++ rowB x.mt.mode 3 ++ ⟨#[32]⟩).size = 11 := by rw [e0, z0]
  obtain ⟨c1, e1⟩ : ∃ c, c0 ++ W1 ++ ⟨#[47]⟩ = c := ⟨_, rfl⟩
  have y1 : (c0 ++ W1).size = c0.size + W1.size := ByteArray.size_append ..
  have z1 : c1.size = c0.size + W1.size + 1 := by rw [← e1, ByteArray.size_append, ByteArray.size_append]; rfl
  have d1 : (c0 ++ W1 ++ ⟨#[47]⟩).size = c0.size + W1.size + 1 := by rw [e1, z1]
  obtain ⟨c2, e2⟩ : ∃ c, c1 ++ W2 ++ ⟨#[32]⟩ = c := ⟨_, rfl⟩
  have y2 : (c1 ++ W2).size = c1.size + W2.size := ByteArray.size_append ..
  have z2 : c2.size = c1.size + W2.size + 1 := by rw [← e2, ByteArray.size_append, ByteArray.size_append]; rfl
  have d2 : (c1 ++ W2 ++ ⟨#[32]⟩).size = c1.size + W2.size + 1 := by rw [e2, z2]
  obtain ⟨c3, e3⟩ : ∃ c, c2 ++ I1 ++ ⟨#[32]⟩ = c := ⟨_, rfl⟩
  have y3 : (c2 ++ I1).size = c2.size + I1.size := ByteArray.size_append ..
  have z3 : c3.size = c2.size + I1.size + 1 := by rw [← e3, ByteArray.size_append, ByteArray.size_append]; rfl
  have d3 : (c2 ++ I1 ++ ⟨#[32]⟩).size = c2.size + I1.size + 1 := by rw [e3, z3]
  obtain ⟨c4, e4⟩ : ∃ c, c3 ++ I2 ++ ⟨#[45]⟩ = c := ⟨_, rfl⟩
  have y4 : (c3 ++ I2).size = c3.size + I2.size := ByteArray.size_append ..
  have z4 : c4.size = c3.size + I2.size + 1 := by rw [← e4, ByteArray.size_append, ByteArray.size_append]; rfl
  have d4 : (c3 ++ I2 ++ ⟨#[45]⟩).size = c3.size + I2.size + 1 := by rw [e4, z4]
  obtain ⟨c5, e5⟩ : ∃ c, c4 ++ T1 ++ ⟨#[45]⟩ = c := ⟨_, rfl⟩
  have y5 : (c4 ++ T1).size = c4.size + T1.size := ByteArray.size_append ..
  have z5 : c5.size = c4.size + T1.size + 1 := by rw [← e5, ByteArray.size_append, ByteArray.size_append]; rfl
  have d5 : (c4 ++ T1 ++ ⟨#[45]⟩).size = c4.size + T1.size + 1 := by rw [e5, z5]
  obtain ⟨c6, e6⟩ : ∃ c, c5 ++ T2 ++ ⟨#[32]⟩ = c := ⟨_, rfl⟩
  have y6 : (c5 ++ T2).size = c5.size + T2.size := ByteArray.size_append ..
  have z6 : c6.size = c5.size + T2.size + 1 := by rw [← e6, ByteArray.size_append, ByteArray.size_append]; rfl
  have d6 : (c5 ++ T2 ++ ⟨#[32]⟩).size = c5.size + T2.size + 1 := by rw [e6, z6]
  obtain ⟨c7, e7⟩ : ∃ c, c6 ++ T3 ++ ⟨#[58]⟩ = c := ⟨_, rfl⟩
  have y7 : (c6 ++ T3).size = c6.size + T3.size := ByteArray.size_append ..
  have z7 : c7.size = c6.size + T3.size + 1 := by rw [← e7, ByteArray.size_append, ByteArray.size_append]; rfl
  have d7 : (c6 ++ T3 ++ ⟨#[58]⟩).size = c6.size + T3.size + 1 := by rw [e7, z7]
  obtain ⟨c8, e8⟩ : ∃ c, c7 ++ T4 ++ ⟨#[32]⟩ = c := ⟨_, rfl⟩
  have y8 : (c7 ++ T4).size = c7.size + T4.size := ByteArray.size_append ..
  have z8 : c8.size = c7.size + T4.size + 1 := by rw [← e8, ByteArray.size_append, ByteArray.size_append]; rfl
  have d8 : (c7 ++ T4 ++ ⟨#[32]⟩).size = c7.size + T4.size + 1 := by rw [e8, z8]
  have y9 : (c8 ++ x.path).size = c8.size + x.path.size := ByteArray.size_append ..
  obtain ⟨zc8, zc7, zc6, zc5, zc4, zc3, zc2, zc1, zc0⟩ := sz_help z0 z1 z2 z3 z4 z5 z6 z7 z8 zW1 zW2 zI1 zI2 zT1 zT2 zT3 zT4
  have ztl : (tailB x).size ≤ 409 := tail_size x ht4
  have hres : AC CX 18 [.agg (encE x)] (.tup [.v (.string (c8 ++ x.path ++ tailB x)), .v (.int .i64 0)]) := by
    have v0 : (kc ++ rowB x.mt.mode 3).size ≤ 400 := by rw [y0]; decide
    have w0 : (kc ++ rowB x.mt.mode 3 ++ ⟨#[32]⟩).size ≤ 400 := by rw [d0]; decide
    have v1 : (c0 ++ W1).size ≤ 400 := by rw [y1]; exact le_of_succ z1 zc1
    have w1 : (c0 ++ W1 ++ ⟨#[47]⟩).size ≤ 400 := by rw [e1]; exact zc1
    have v2 : (c1 ++ W2).size ≤ 400 := by rw [y2]; exact le_of_succ z2 zc2
    have w2 : (c1 ++ W2 ++ ⟨#[32]⟩).size ≤ 400 := by rw [e2]; exact zc2
    have v3 : (c2 ++ I1).size ≤ 400 := by rw [y3]; exact le_of_succ z3 zc3
    have w3 : (c2 ++ I1 ++ ⟨#[32]⟩).size ≤ 400 := by rw [e3]; exact zc3
    have v4 : (c3 ++ I2).size ≤ 400 := by rw [y4]; exact le_of_succ z4 zc4
    have w4 : (c3 ++ I2 ++ ⟨#[45]⟩).size ≤ 400 := by rw [e4]; exact zc4
    have v5 : (c4 ++ T1).size ≤ 400 := by rw [y5]; exact le_of_succ z5 zc5
    have w5 : (c4 ++ T1 ++ ⟨#[45]⟩).size ≤ 400 := by rw [e5]; exact zc5
    have v6 : (c5 ++ T2).size ≤ 400 := by rw [y6]; exact le_of_succ z6 zc6
    have w6 : (c5 ++ T2 ++ ⟨#[32]⟩).size ≤ 400 := by rw [e6]; exact zc6
    have v7 : (c6 ++ T3).size ≤ 400 := by rw [y7]; exact le_of_succ z7 zc7
    have w7 : (c6 ++ T3 ++ ⟨#[58]⟩).size ≤ 400 := by rw [e7]; exact zc7
    have v8 : (c7 ++ T4).size ≤ 400 := by rw [y8]; exact le_of_succ z8 zc8
    have w8 : (c7 ++ T4 ++ ⟨#[32]⟩).size ≤ 400 := by rw [e8]; exact zc8
    have v9 : (c8 ++ x.path).size ≤ 800 := by rw [y9]; exact Nat.add_le_add zc8 hp4
    have hdl := bytesA_len x.data
    have ekc2 : (⟨#[63, 45, 100, 108, 104]⟩ : ByteArray).extract kN (kN + 1) = kc := ekc.symm
    clear z0 z1 z2 z3 z4 z5 z6 z7 z8 y0 y1 y2 y3 y4 y5 y6 y7 y8 y9 d0 d1 d2 d3 d4 d5 d6 d7 d8 hub hgb huN hgN hmt hg
    clear ekc hI1 hI2 b1 b2 b3 h0 h1 hk hds
    have hLh : Hid _ := ⟨hL2⟩
    clear hL2
    refine AC_walk ⟨TB, 121, 0, [], []⟩ (fn := Tryd.f18) TB_ok Tryd.func18 rfl rfl rfl rfl rfl (fun _ => rfl) (fun _ => rfl) ?_; intro E hna hX
    refine goT ?_
    refine ⟨_, hpr, by kernel_rfl, fun _ => rfl, ?_⟩
    refine goT ?_
    refine ⟨_, htx, by kernel_rfl, fun _ => rfl, ?_⟩
    refine goT ?_
    refine ⟨_, hday, by kernel_rfl, fun _ => rfl, ?_⟩
    repeat (first | ((with_reducible show W _ _ _ _ _ _); first | refine W_seq ?_ | refine W_block ?_ | refine W_regionB hX 7 rfl ?_ | refine W_cond ?_ | refine W_skip ?_ | refine W_exit ?_ | refine W_ret ?_) | ((fail_if_success (with_reducible show W _ _ _ _ _ _)); show W _ _ _ _ _ _) | refine andA ?_ | refine condT ?_ | refine condF ?_ | refine exB ?_ | refine exL ?_ | refine Exists.intro _ (And.intro rfl ?_) | refine Exists.intro _ (And.intro (get_mapN (by assumption)) ?_) | ((fail_if_success (with_reducible show LoopEnd _ _ _ _ _ _ _)); show LoopEnd _ _ _ _ _ _ _) | ((fail_if_success (with_reducible show JoinEnd _ _ _ _ _)); show JoinEnd _ _ _ _ _) | ((fail_if_success (with_reducible show JoinG _ _ _ _ _)); show JoinG _ _ _ _ _))
    rw [hrm]
    refine W_region hX ?_
    show W _ _ _ _ _ _
    refine W_cond ?_
    refine cnd_join True ⟨[(1, .ptr 0 0), (5, .v (.string (rowB x.mt.mode 3))), (7, .v (.int .i64 Y)), (8, .v (.int .i64 M)), (9, .v (.int .i64 D)), (11, .v (.int .i64 L))], [.cells 42 (encE x)]⟩ ?_ ?_
    · refine condB_intro (fun g => ?_) (fun g => ?_)
      · have hL2 := hLh.out
        rw [if_pos (of_decide_eq_true g)] at hL2
        refine goT ?_
        exact ⟨trivial, Drops.to [1, 5, 7, 8, 9, 11] (by rw [hL2]; rfl)⟩
      · have hL2 := hLh.out
        rw [if_neg (of_decide_eq_false g)] at hL2
        refine goT ?_
        exact ⟨trivial, Drops.to [1, 5, 7, 8, 9, 11] (by rw [hL2]; rfl)⟩
    intro _
    clear hLh hrm hrb
    refine goT ?_
    refine W_draw hX (n := 61) (follows_mixed Tryd.checked) (ws := ([] :: [(0, 43)] :: [] :: [(2, 45)] :: [(3, 46)] :: [(1, 44), (4, 47)] :: [] :: [(5, 48), (6, 49)] :: [(7, 50)] :: [] :: [] :: [(10, 53)] :: [(11, 54)] :: [] :: [(13, 56)] :: [(14, 57)] :: [(9, 52), (12, 55), (15, 58)] :: [(8, 51), (16, 59)] :: [(17, 60)] :: [] :: [] :: [(20, 63)] :: [(21, 64)] :: [] :: [(23, 66)] :: [(24, 67)] :: [(16, 59), (19, 62), (22, 65), (25, 68)] :: [(18, 61), (26, 69)] :: [(27, 70)] :: [] :: [(29, 72)] :: [(30, 73)] :: [(26, 69), (31, 74)] :: [(28, 71), (32, 75)] :: [(33, 76)] :: [] :: [(32, 75), (35, 78)] :: [(34, 77), (36, 79)] :: [(37, 80)] :: [] :: [(36, 79), (39, 82)] :: [(38, 81), (40, 83)] :: [(41, 84)] :: [] :: [(40, 83), (43, 86)] :: [(42, 85), (44, 87)] :: [(45, 88)] :: [] :: [(47, 90)] :: [(44, 87), (48, 91)] :: [(46, 89), (49, 92)] :: [(50, 93)] :: [] :: [(52, 95)] :: [(53, 96)] :: [(49, 92), (54, 97)] :: [(51, 94), (55, 98)] :: [(56, 99)] :: [] :: [(58, 101)] :: [(57, 100), (59, 102)] :: [])) (ds := (43 :: 44 :: 45 :: 46 :: 47 :: 48 :: 49 :: 50 :: 51 :: 52 :: 53 :: 54 :: 55 :: 56 :: 57 :: 58 :: 59 :: 60 :: 61 :: 62 :: 63 :: 64 :: 65 :: 66 :: 67 :: 68 :: 69 :: 70 :: 71 :: 72 :: 73 :: 74 :: 75 :: 76 :: 77 :: 78 :: 79 :: 80 :: 81 :: 82 :: 83 :: 84 :: 85 :: 86 :: 87 :: 88 :: 89 :: 90 :: 91 :: 92 :: 93 :: 94 :: 95 :: 96 :: 97 :: 98 :: 99 :: 100 :: 101 :: 102 :: 103 :: [])) (bi := []) (wa := ((0, 43) :: (1, 44) :: (2, 45) :: (3, 46) :: (4, 47) :: (5, 48) :: (6, 49) :: (7, 50) :: (8, 51) :: (9, 52) :: (10, 53) :: (11, 54) :: (12, 55) :: (13, 56) :: (14, 57) :: (15, 58) :: (16, 59) :: (17, 60) :: (18, 61) :: (19, 62) :: (20, 63) :: (21, 64) :: (22, 65) :: (23, 66) :: (24, 67) :: (25, 68) :: (26, 69) :: (27, 70) :: (28, 71) :: (29, 72) :: (30, 73) :: (31, 74) :: (32, 75) :: (33, 76) :: (34, 77) :: (35, 78) :: (36, 79) :: (37, 80) :: (38, 81) :: (39, 82) :: (40, 83) :: (41, 84) :: (42, 85) :: (43, 86) :: (44, 87) :: (45, 88) :: (46, 89) :: (47, 90) :: (48, 91) :: (49, 92) :: (50, 93) :: (51, 94) :: (52, 95) :: (53, 96) :: (54, 97) :: (55, 98) :: (56, 99) :: (57, 100) :: (58, 101) :: (59, 102) :: (60, 103) :: [])) ⟨by kernel_rfl, by kernel_rfl, by kernel_rfl, by kernel_rfl, by decide, by kernel_rfl, by kernel_rfl, rfl, by decide, rfl⟩ ?_
    refine goT ?_
    refine ⟨kN, hkN.symm, kN + 1, by omega, ⟨Nat.le_succ _, by show kN + 1 ≤ 5; omega⟩, ?_⟩
    rw [ekc2]
    refine goT ?_
    rw [e0]
    refine ⟨_, cW1, by kernel_rfl, fun _ => rfl, ?_⟩
    refine goT ?_
    rw [e1]
    refine ⟨_, cW2, by kernel_rfl, fun _ => rfl, ?_⟩
    refine goT ?_
    rw [e2]
    refine ⟨_, cI1, by kernel_rfl, fun _ => rfl, ?_⟩
    refine goT ?_
    rw [e3]
    refine ⟨_, cI2, by kernel_rfl, fun _ => rfl, ?_⟩
    refine goT ?_
    rw [e4]
    refine ⟨_, cT1, by kernel_rfl, fun _ => rfl, ?_⟩
    refine goT ?_
    rw [e5]
    refine ⟨_, cT2, by kernel_rfl, fun _ => rfl, ?_⟩
    refine goT ?_
    rw [e6]
    rw [gL1]
    refine ⟨_, cT3, by kernel_rfl, fun _ => rfl, ?_⟩
    refine goT ?_
    rw [e7]
    rw [gL2, gL3]
    refine ⟨_, cT4, by kernel_rfl, fun _ => rfl, ?_⟩
    refine goT ?_
    rw [e8]
    have l1 : (⟨#[32, 45, 62, 32]⟩ : ByteArray).size = 4 := rfl
    have l2 : (⟨#[32, 45, 62, 32]⟩ ++ x.target).size ≤ 409 := by rw [ByteArray.size_append, l1]; omega
    have l3 : (⟨#[32, 108, 105, 110, 107, 32, 116, 111, 32]⟩ : ByteArray).size = 9 := rfl
    have l4 : (⟨#[32, 108, 105, 110, 107, 32, 116, 111, 32]⟩ ++ x.target).size ≤ 409 := by rw [ByteArray.size_append, l3]; omega
    by_cases k3 : x.kind = 3
    · rw [show tailB x = ⟨#[32, 45, 62, 32]⟩ ++ x.target from if_pos k3]
      refine goT ?_
      rfl
    · by_cases k4 : x.kind = 4
      · rw [show tailB x = ⟨#[32, 108, 105, 110, 107, 32, 116, 111, 32]⟩ ++ x.target by unfold tailB; rw [if_neg k3, if_pos k4]]
        refine goT ?_
        rfl
      · rw [show c8 ++ x.path ++ tailB x = c8 ++ x.path by unfold tailB; rw [if_neg k3, if_neg k4]; apply bytes_ext; rw [app_list]; exact List.append_nil _]
        refine goT ?_
        rfl
  refine ⟨c8 ++ x.path ++ tailB x, (W1 ++ (⟨#[47]⟩ ++ (W2 ++ (⟨#[32]⟩ ++ (I1 ++ (⟨#[32]⟩ ++ (I2 ++ (⟨#[45]⟩ ++ (T1 ++ (⟨#[45]⟩ ++ (T2 ++ (⟨#[32]⟩ ++ (T3 ++ (⟨#[58]⟩ ++ (T4 ++ (⟨#[32]⟩ ++ (x.path ++ tailB x))))))))))))))))), c7 ++ T4, hres, ?_, ?_, ?_⟩
  · rw [show x.kind.toNat = kN by omega, ← ekc]
    apply bytes_ext
    rw [← e8, ← e7, ← e6, ← e5, ← e4, ← e3, ← e2, ← e1, ← e0]
    simp only [app_list, List.append_assoc]
  · apply bytes_ext
    rw [← e8]
    simp only [app_list, List.append_assoc]
  · rw [ByteArray.size_append, ByteArray.size_append]
    exact add3 zc8 hp4 ztl
end Go.Proofs.YtnfbomhhgjlacaaDoor.Abs
