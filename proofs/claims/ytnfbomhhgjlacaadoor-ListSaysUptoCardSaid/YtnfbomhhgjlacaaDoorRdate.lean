/- Days and dates: list.date, list.Day, list.two. -/
import Derived.Test.YtnfbomhhgjlacaaDoorRdec
import Derived.Test.YtnfbomhhgjlacaaDoorDr12
namespace Go.Proofs.YtnfbomhhgjlacaaDoor.Abs
open Go.RowKit Go.MapKept
set_option linter.unusedVariables false
set_option linter.unusedSimpArgs false
set_option maxRecDepth 100000
set_option maxHeartbeats 4000000
theorem yoe_core (e y : Int) (h0 : 0 ≤ e) (h1 : e ≤ 146096) (hy : y = (e - e / 1460 + e / 36524 - e / 146096) / 365) :
    0 ≤ y ∧ y ≤ 399 ∧ 365 * y + y / 4 - y / 100 ≤ e ∧ e < 365 * (y + 1) + (y + 1) / 4 - (y + 1) / 100 + (y + 1) / 400 := by
  by_cases e4 : e = 146096
  · subst e4; subst hy; decide
  obtain ⟨d, r, hd, hd0, hd1, hr0, hr1⟩ : ∃ d r : Int, e = 36524 * d + r ∧ 0 ≤ d ∧ d ≤ 3 ∧ 0 ≤ r ∧ r ≤ 36523 := ⟨e / 36524, e % 36524, by omega, by omega, by omega, by omega, by omega⟩
  have f' : e / 146096 = 0 := by omega
  have d' : e / 36524 = d := by omega
  obtain ⟨q, hq⟩ : ∃ q, q = (24 * d + r) / 1460 := ⟨_, rfl⟩
  have c' : e / 1460 = 25 * d + q := by omega
  rw [f', d', c'] at hy
  obtain ⟨t, ht⟩ : ∃ t, t = (r - q) / 365 := ⟨_, rfl⟩
  have hy2 : y = 100 * d + t := by omega
  have q0 : 0 ≤ q := by omega
  have q1 : q ≤ 25 := by omega
  have t0 : 0 ≤ t := by
    have : q ≤ r := by omega
    omega
  have t1 : t ≤ 99 := by omega
  have y4 : y / 4 = 25 * d + t / 4 := by omega
  have y100 : y / 100 = d := by omega
  refine ⟨by omega, by omega, ?_, ?_⟩
  · rw [y4, y100]
    have : t / 4 ≤ q := by omega
    omega
  · by_cases e99 : t = 99
    · have : (y + 1) / 100 = d + 1 := by omega
      have : (y + 1) / 4 = 25 * d + 25 := by omega
      omega
    · have : (y + 1) / 100 = d := by omega
      have : (y + 1) / 4 = 25 * d + (t + 1) / 4 := by omega
      have : q ≤ (t + 1) / 4 := by omega
      have : 0 ≤ (y + 1) / 400 := by omega
      omega
theorem tdv {n m : Int} (h : 0 ≤ n) : Int.tdiv n m = n / m := Int.tdiv_eq_ediv_of_nonneg h
theorem date_ex (a : Int) (h0 : -500000 ≤ a) (h1 : a ≤ 500000) : ∃ Y M D : Nat, Y ≤ 100000 ∧ M ≤ 100 ∧ D ≤ 1000 ∧ AC CX 97 [.v (.int .i64 a)] (.tup [.v (.int .i64 Y), .v (.int .i64 M), .v (.int .i64 D)]) := by
  obtain ⟨z, hz⟩ : ∃ z, a + 719468 = z := ⟨_, rfl⟩
  have z0 : 0 ≤ z := by omega
  have z1 : z ≤ 2000000 := by omega
  obtain ⟨E, hE⟩ : ∃ E, z / 146097 = E := ⟨_, rfl⟩
  have gE : (a + 719468).tdiv 146097 = E := by rw [hz, tdv z0, hE]
  obtain ⟨e, he⟩ : ∃ e, z - 146097 * E = e := ⟨_, rfl⟩
  have e0 : 0 ≤ e := by omega
  have e1 : e ≤ 146096 := by omega
  obtain ⟨y, hy⟩ : ∃ y, y = (e - e / 1460 + e / 36524 - e / 146096) / 365 := ⟨_, rfl⟩
  obtain ⟨y0, y1, lo, hi⟩ := yoe_core e y e0 e1 hy
  have g1 : e.tdiv 1460 = e / 1460 := tdv e0
  have g2 : e.tdiv 36524 = e / 36524 := tdv e0
  have g3 : e.tdiv 146096 = e / 146096 := tdv e0
  have gY : (e - e.tdiv 1460 + e.tdiv 36524 - e.tdiv 146096).tdiv 365 = y := by rw [g1, g2, g3, tdv (by omega), hy]
  have g4 : y.tdiv 4 = y / 4 := tdv y0
  have g5 : y.tdiv 100 = y / 100 := tdv y0
  obtain ⟨d, hd⟩ : ∃ d, e - (365 * y + y.tdiv 4 - y.tdiv 100) = d := ⟨_, rfl⟩
  have d0 : 0 ≤ d := by omega
  have d1 : d ≤ 365 := by
    rw [← hd, g4, g5]
    clear hE gE he g1 g2 g3 gY hy hd hz g4 g5 d0
    by_cases y399 : y = 399
    · subst y399; omega
    · omega
  obtain ⟨m, hm⟩ : ∃ m, (5 * d + 2) / 153 = m := ⟨_, rfl⟩
  have gM : (5 * d + 2).tdiv 153 = m := by rw [tdv (by omega), hm]
  have g6 : (153 * m + 2).tdiv 5 = (153 * m + 2) / 5 := tdv (by omega)
  have m0 : 0 ≤ m := by omega
  have m1 : m ≤ 11 := by omega
  have D0 : 0 ≤ d - (153 * m + 2) / 5 + 1 := by omega
  clear hy lo hi
  by_cases hl : m < 10
  · refine ⟨(y + 400 * E).toNat, (m + 3).toNat, (d - (153 * m + 2) / 5 + 1).toNat, by omega, by omega, by omega, ?_⟩
    rw [Int.toNat_of_nonneg (by omega), Int.toNat_of_nonneg (by omega), Int.toNat_of_nonneg D0]
    refine AC_walk ⟨TB, 70, 0, [], []⟩ (fn := Tryd.f97) TB_ok Tryd.func97 rfl rfl rfl rfl rfl (fun _ => rfl) (fun _ => rfl) ?_; intro E hna hX
    repeat (first | ((with_reducible show W _ _ _ _ _ _); first | refine W_seq ?_ | refine W_block ?_ | refine W_regionB hX 3 rfl ?_ | refine W_cond ?_ | refine W_skip ?_ | refine W_exit ?_ | refine W_ret ?_) | ((fail_if_success (with_reducible show W _ _ _ _ _ _)); show W _ _ _ _ _ _) | refine andA ?_ | refine condT ?_ | refine condF ?_ | refine exB ?_ | refine exL ?_ | refine Exists.intro _ (And.intro rfl ?_) | refine Exists.intro _ (And.intro (get_mapN (by assumption)) ?_) | ((fail_if_success (with_reducible show LoopEnd _ _ _ _ _ _ _)); show LoopEnd _ _ _ _ _ _ _) | ((fail_if_success (with_reducible show JoinEnd _ _ _ _ _)); show JoinEnd _ _ _ _ _) | ((fail_if_success (with_reducible show JoinG _ _ _ _ _)); show JoinG _ _ _ _ _))
    rw [gE, hz]
    repeat (first | ((with_reducible show W _ _ _ _ _ _); first | refine W_seq ?_ | refine W_block ?_ | refine W_regionB hX 6 rfl ?_ | refine W_cond ?_ | refine W_skip ?_ | refine W_exit ?_ | refine W_ret ?_) | ((fail_if_success (with_reducible show W _ _ _ _ _ _)); show W _ _ _ _ _ _) | refine andA ?_ | refine condT ?_ | refine condF ?_ | refine exB ?_ | refine exL ?_ | refine Exists.intro _ (And.intro rfl ?_) | refine Exists.intro _ (And.intro (get_mapN (by assumption)) ?_) | ((fail_if_success (with_reducible show LoopEnd _ _ _ _ _ _ _)); show LoopEnd _ _ _ _ _ _ _) | ((fail_if_success (with_reducible show JoinEnd _ _ _ _ _)); show JoinEnd _ _ _ _ _) | ((fail_if_success (with_reducible show JoinG _ _ _ _ _)); show JoinG _ _ _ _ _))
    rw [he]
    repeat (first | ((with_reducible show W _ _ _ _ _ _); first | refine W_seq ?_ | refine W_block ?_ | refine W_regionB hX 7 rfl ?_ | refine W_cond ?_ | refine W_skip ?_ | refine W_exit ?_ | refine W_ret ?_) | ((fail_if_success (with_reducible show W _ _ _ _ _ _)); show W _ _ _ _ _ _) | refine andA ?_ | refine condT ?_ | refine condF ?_ | refine exB ?_ | refine exL ?_ | refine Exists.intro _ (And.intro rfl ?_) | refine Exists.intro _ (And.intro (get_mapN (by assumption)) ?_) | ((fail_if_success (with_reducible show LoopEnd _ _ _ _ _ _ _)); show LoopEnd _ _ _ _ _ _ _) | ((fail_if_success (with_reducible show JoinEnd _ _ _ _ _)); show JoinEnd _ _ _ _ _) | ((fail_if_success (with_reducible show JoinG _ _ _ _ _)); show JoinG _ _ _ _ _))
    rw [gY]
    repeat (first | ((with_reducible show W _ _ _ _ _ _); first | refine W_seq ?_ | refine W_block ?_ | refine W_regionB hX 8 rfl ?_ | refine W_cond ?_ | refine W_skip ?_ | refine W_exit ?_ | refine W_ret ?_) | ((fail_if_success (with_reducible show W _ _ _ _ _ _)); show W _ _ _ _ _ _) | refine andA ?_ | refine condT ?_ | refine condF ?_ | refine exB ?_ | refine exL ?_ | refine Exists.intro _ (And.intro rfl ?_) | refine Exists.intro _ (And.intro (get_mapN (by assumption)) ?_) | ((fail_if_success (with_reducible show LoopEnd _ _ _ _ _ _ _)); show LoopEnd _ _ _ _ _ _ _) | ((fail_if_success (with_reducible show JoinEnd _ _ _ _ _)); show JoinEnd _ _ _ _ _) | ((fail_if_success (with_reducible show JoinG _ _ _ _ _)); show JoinG _ _ _ _ _))
    rw [hd]
    repeat (first | ((with_reducible show W _ _ _ _ _ _); first | refine W_seq ?_ | refine W_block ?_ | refine W_regionB hX 9 rfl ?_ | refine W_cond ?_ | refine W_skip ?_ | refine W_exit ?_ | refine W_ret ?_) | ((fail_if_success (with_reducible show W _ _ _ _ _ _)); show W _ _ _ _ _ _) | refine andA ?_ | refine condT ?_ | refine condF ?_ | refine exB ?_ | refine exL ?_ | refine Exists.intro _ (And.intro rfl ?_) | refine Exists.intro _ (And.intro (get_mapN (by assumption)) ?_) | ((fail_if_success (with_reducible show LoopEnd _ _ _ _ _ _ _)); show LoopEnd _ _ _ _ _ _ _) | ((fail_if_success (with_reducible show JoinEnd _ _ _ _ _)); show JoinEnd _ _ _ _ _) | ((fail_if_success (with_reducible show JoinG _ _ _ _ _)); show JoinG _ _ _ _ _))
    rw [gM]
    refine goT ?_
    rw [g6]
    refine goT ?_
    rfl
  · refine ⟨(y + 400 * E + 1).toNat, (m - 9).toNat, (d - (153 * m + 2) / 5 + 1).toNat, by omega, by omega, by omega, ?_⟩
    rw [Int.toNat_of_nonneg (by omega), Int.toNat_of_nonneg (by omega), Int.toNat_of_nonneg D0]
    refine AC_walk ⟨TB, 70, 0, [], []⟩ (fn := Tryd.f97) TB_ok Tryd.func97 rfl rfl rfl rfl rfl (fun _ => rfl) (fun _ => rfl) ?_; intro E hna hX
    repeat (first | ((with_reducible show W _ _ _ _ _ _); first | refine W_seq ?_ | refine W_block ?_ | refine W_regionB hX 3 rfl ?_ | refine W_cond ?_ | refine W_skip ?_ | refine W_exit ?_ | refine W_ret ?_) | ((fail_if_success (with_reducible show W _ _ _ _ _ _)); show W _ _ _ _ _ _) | refine andA ?_ | refine condT ?_ | refine condF ?_ | refine exB ?_ | refine exL ?_ | refine Exists.intro _ (And.intro rfl ?_) | refine Exists.intro _ (And.intro (get_mapN (by assumption)) ?_) | ((fail_if_success (with_reducible show LoopEnd _ _ _ _ _ _ _)); show LoopEnd _ _ _ _ _ _ _) | ((fail_if_success (with_reducible show JoinEnd _ _ _ _ _)); show JoinEnd _ _ _ _ _) | ((fail_if_success (with_reducible show JoinG _ _ _ _ _)); show JoinG _ _ _ _ _))
    rw [gE, hz]
    repeat (first | ((with_reducible show W _ _ _ _ _ _); first | refine W_seq ?_ | refine W_block ?_ | refine W_regionB hX 6 rfl ?_ | refine W_cond ?_ | refine W_skip ?_ | refine W_exit ?_ | refine W_ret ?_) | ((fail_if_success (with_reducible show W _ _ _ _ _ _)); show W _ _ _ _ _ _) | refine andA ?_ | refine condT ?_ | refine condF ?_ | refine exB ?_ | refine exL ?_ | refine Exists.intro _ (And.intro rfl ?_) | refine Exists.intro _ (And.intro (get_mapN (by assumption)) ?_) | ((fail_if_success (with_reducible show LoopEnd _ _ _ _ _ _ _)); show LoopEnd _ _ _ _ _ _ _) | ((fail_if_success (with_reducible show JoinEnd _ _ _ _ _)); show JoinEnd _ _ _ _ _) | ((fail_if_success (with_reducible show JoinG _ _ _ _ _)); show JoinG _ _ _ _ _))
    rw [he]
    repeat (first | ((with_reducible show W _ _ _ _ _ _); first | refine W_seq ?_ | refine W_block ?_ | refine W_regionB hX 7 rfl ?_ | refine W_cond ?_ | refine W_skip ?_ | refine W_exit ?_ | refine W_ret ?_) | ((fail_if_success (with_reducible show W _ _ _ _ _ _)); show W _ _ _ _ _ _) | refine andA ?_ | refine condT ?_ | refine condF ?_ | refine exB ?_ | refine exL ?_ | refine Exists.intro _ (And.intro rfl ?_) | refine Exists.intro _ (And.intro (get_mapN (by assumption)) ?_) | ((fail_if_success (with_reducible show LoopEnd _ _ _ _ _ _ _)); show LoopEnd _ _ _ _ _ _ _) | ((fail_if_success (with_reducible show JoinEnd _ _ _ _ _)); show JoinEnd _ _ _ _ _) | ((fail_if_success (with_reducible show JoinG _ _ _ _ _)); show JoinG _ _ _ _ _))
    rw [gY]
    repeat (first | ((with_reducible show W _ _ _ _ _ _); first | refine W_seq ?_ | refine W_block ?_ | refine W_regionB hX 8 rfl ?_ | refine W_cond ?_ | refine W_skip ?_ | refine W_exit ?_ | refine W_ret ?_) | ((fail_if_success (with_reducible show W _ _ _ _ _ _)); show W _ _ _ _ _ _) | refine andA ?_ | refine condT ?_ | refine condF ?_ | refine exB ?_ | refine exL ?_ | refine Exists.intro _ (And.intro rfl ?_) | refine Exists.intro _ (And.intro (get_mapN (by assumption)) ?_) | ((fail_if_success (with_reducible show LoopEnd _ _ _ _ _ _ _)); show LoopEnd _ _ _ _ _ _ _) | ((fail_if_success (with_reducible show JoinEnd _ _ _ _ _)); show JoinEnd _ _ _ _ _) | ((fail_if_success (with_reducible show JoinG _ _ _ _ _)); show JoinG _ _ _ _ _))
    rw [hd]
    repeat (first | ((with_reducible show W _ _ _ _ _ _); first | refine W_seq ?_ | refine W_block ?_ | refine W_regionB hX 9 rfl ?_ | refine W_cond ?_ | refine W_skip ?_ | refine W_exit ?_ | refine W_ret ?_) | ((fail_if_success (with_reducible show W _ _ _ _ _ _)); show W _ _ _ _ _ _) | refine andA ?_ | refine condT ?_ | refine condF ?_ | refine exB ?_ | refine exL ?_ | refine Exists.intro _ (And.intro rfl ?_) | refine Exists.intro _ (And.intro (get_mapN (by assumption)) ?_) | ((fail_if_success (with_reducible show LoopEnd _ _ _ _ _ _ _)); show LoopEnd _ _ _ _ _ _ _) | ((fail_if_success (with_reducible show JoinEnd _ _ _ _ _)); show JoinEnd _ _ _ _ _) | ((fail_if_success (with_reducible show JoinG _ _ _ _ _)); show JoinG _ _ _ _ _))
    rw [gM]
    refine goT ?_
    rw [g6]
    refine goT ?_
    rfl
theorem day_ex (s : Int) (h0 : -34359738368 ≤ s) (h1 : s ≤ 34359738368) : ∃ Y M D : Nat, Y ≤ 100000 ∧ M ≤ 100 ∧ D ≤ 1000 ∧ AC CX 55 [.v (.int .i64 s)] (.tup [.v (.int .i64 Y), .v (.int .i64 M), .v (.int .i64 D), .v (.int .i64 0)]) := by
  obtain ⟨q, hq⟩ : ∃ q, s.tdiv 86400 = q := ⟨_, rfl⟩
  obtain ⟨r, hr⟩ : ∃ r, s.tmod 86400 = r := ⟨_, rfl⟩
  have hqr : s = r + 86400 * q := by
    have := Int.tmod_add_mul_tdiv s 86400
    rw [hq, hr] at this
    omega
  have hrb : -86400 < r ∧ r < 86400 := by
    rw [← hr]
    constructor
    · rcases Int.lt_or_le s 0 with hs | hs
      · have e1 : s = -(-s) := by omega
        have := Int.tmod_lt_of_pos (-s) (show (0 : Int) < 86400 by decide)
        rw [e1, Int.neg_tmod]
        omega
      · have := Int.tmod_nonneg 86400 hs
        omega
    · exact Int.tmod_lt_of_pos s (by decide)
  by_cases hn : r < 0
  · obtain ⟨Y, M, D, b1, b2, b3, hd⟩ := date_ex (q - 1) (by omega) (by omega)
    refine ⟨Y, M, D, b1, b2, b3, ?_⟩
    refine AC_walk ⟨TB, 32, 0, [], []⟩ (fn := Tryd.f55) TB_ok Tryd.func55 rfl rfl rfl rfl rfl (fun _ => rfl) (fun _ => rfl) ?_; intro E hna hX
    repeat (first | ((with_reducible show W _ _ _ _ _ _); first | refine W_seq ?_ | refine W_block ?_ | refine W_regionB hX 4 rfl ?_ | refine W_cond ?_ | refine W_skip ?_ | refine W_exit ?_ | refine W_ret ?_) | ((fail_if_success (with_reducible show W _ _ _ _ _ _)); show W _ _ _ _ _ _) | refine andA ?_ | refine condT ?_ | refine condF ?_ | refine exB ?_ | refine exL ?_ | refine Exists.intro _ (And.intro rfl ?_) | refine Exists.intro _ (And.intro (get_mapN (by assumption)) ?_) | ((fail_if_success (with_reducible show LoopEnd _ _ _ _ _ _ _)); show LoopEnd _ _ _ _ _ _ _) | ((fail_if_success (with_reducible show JoinEnd _ _ _ _ _)); show JoinEnd _ _ _ _ _) | ((fail_if_success (with_reducible show JoinG _ _ _ _ _)); show JoinG _ _ _ _ _))
    rw [hq]
    refine goT ?_
    rw [hr]
    refine goT ?_
    refine ⟨_, hd, by kernel_rfl, fun _ => rfl, ?_⟩
    refine goT ?_
    rfl
  · obtain ⟨Y, M, D, b1, b2, b3, hd⟩ := date_ex q (by omega) (by omega)
    refine ⟨Y, M, D, b1, b2, b3, ?_⟩
    refine AC_walk ⟨TB, 32, 0, [], []⟩ (fn := Tryd.f55) TB_ok Tryd.func55 rfl rfl rfl rfl rfl (fun _ => rfl) (fun _ => rfl) ?_; intro E hna hX
    repeat (first | ((with_reducible show W _ _ _ _ _ _); first | refine W_seq ?_ | refine W_block ?_ | refine W_regionB hX 4 rfl ?_ | refine W_cond ?_ | refine W_skip ?_ | refine W_exit ?_ | refine W_ret ?_) | ((fail_if_success (with_reducible show W _ _ _ _ _ _)); show W _ _ _ _ _ _) | refine andA ?_ | refine condT ?_ | refine condF ?_ | refine exB ?_ | refine exL ?_ | refine Exists.intro _ (And.intro rfl ?_) | refine Exists.intro _ (And.intro (get_mapN (by assumption)) ?_) | ((fail_if_success (with_reducible show LoopEnd _ _ _ _ _ _ _)); show LoopEnd _ _ _ _ _ _ _) | ((fail_if_success (with_reducible show JoinEnd _ _ _ _ _)); show JoinEnd _ _ _ _ _) | ((fail_if_success (with_reducible show JoinG _ _ _ _ _)); show JoinG _ _ _ _ _))
    rw [hq]
    refine goT ?_
    rw [hr]
    refine goT ?_
    refine ⟨_, hd, by kernel_rfl, fun _ => rfl, ?_⟩
    refine goT ?_
    rfl
theorem two_ex (n : Nat) (h : n ≤ 1000000) : ∃ s : ByteArray, s.size ≤ 40 ∧ AC CX 58 [.v (.int .i64 n)] (.v (.string s)) := by
  have g1 : (n : Int).tdiv 10 = ((n / 10 : Nat) : Int) := by rw [tdv (by omega)]; omega
  have g2 : (n : Int).tmod 10 = ((n % 10 : Nat) : Int) := by rw [Int.tmod_eq_emod_of_nonneg (by omega)]; omega
  have i1 := itoa_ac (n / 10) (by omega)
  have i2 := itoa_ac (n % 10) (by omega)
  have z1 := dd_len 18 (n / 10) (by omega)
  have z2 := dd_len 18 (n % 10) (by omega)
  have y1 : (mkS (Lib.decDigits (n / 10))).size = (Lib.decDigits (n / 10)).length := mkS_size _
  have y2 : (mkS (Lib.decDigits (n % 10))).size = (Lib.decDigits (n % 10)).length := mkS_size _
  refine ⟨mkS (Lib.decDigits (n / 10)) ++ mkS (Lib.decDigits (n % 10)), by rw [ByteArray.size_append]; omega, ?_⟩
  refine AC_walk ⟨TB, 10, 0, [], []⟩ (fn := Tryd.f58) TB_ok Tryd.func58 rfl rfl rfl rfl rfl (fun _ => rfl) (fun _ => rfl) ?_; intro E hna hX
  refine goT ?_
  rw [g1]
  refine goT ?_
  refine ⟨_, i1, by kernel_rfl, fun _ => rfl, ?_⟩
  refine goT ?_
  rw [g2]
  refine goT ?_
  refine ⟨_, i2, by kernel_rfl, fun _ => rfl, ?_⟩
  refine goT ?_
  rfl
theorem who_ex (s : ByteArray) (n : Nat) (hs : s.size ≤ 60) (h : n ≤ 1125899906842624) : ∃ u : ByteArray, u.size ≤ 60 ∧ AC CX 56 [.v (.string s), .v (.int .i64 n)] (.v (.string u)) := by
  by_cases e : s = ⟨#[]⟩
  · have i1 := itoa_ac n (by omega)
    have z1 := dd_len 18 n (by omega)
    refine ⟨mkS (Lib.decDigits n), by rw [mkS_size]; omega, ?_⟩
    refine AC_walk ⟨TB, 10, 0, [], []⟩ (fn := Tryd.f56) TB_ok Tryd.func56 rfl rfl rfl rfl rfl (fun _ => rfl) (fun _ => rfl) ?_; intro E hna hX
    refine goT ?_
    refine ⟨_, i1, by kernel_rfl, fun _ => rfl, ?_⟩
    refine goT ?_
    rfl
  · refine ⟨s, hs, ?_⟩
    refine AC_walk ⟨TB, 10, 0, [], []⟩ (fn := Tryd.f56) TB_ok Tryd.func56 rfl rfl rfl rfl rfl (fun _ => rfl) (fun _ => rfl) ?_; intro E hna hX
    refine goT ?_
    rfl
end Go.Proofs.YtnfbomhhgjlacaaDoor.Abs
