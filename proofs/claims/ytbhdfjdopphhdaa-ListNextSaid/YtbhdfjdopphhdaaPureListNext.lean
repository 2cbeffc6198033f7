/- The date of the following day is the following date: for every int, brought into the range of seconds. -/
import Derived.Test.YtbhdfjdopphhdaaPListNextx1
import Derived.OpenShut
namespace Go.Proofs.Ytbhdfjdopphhdaa.Pure
open Go.RowKit Go.Proofs.Ytbhdfjdopphhdaa.PListNext Go.Proofs.YtbhdfjdopphhdaaW.PrintWords Go.Proofs.YtbhdfjdopphhdaaW.PrintLast Go.Proofs.YtbhdfjdopphhdaaW.PrintMore
set_option linter.unusedVariables false
set_option linter.unusedSimpArgs false

theorem w64 {n : Int} (h1 : -9223372036854775808 ≤ n) (h2 : n ≤ 9223372036854775807) : wrap64 n = n := by
  unfold wrap64
  omega

theorem picked_spec {a m : Int} (hw : (Lit.int .i64 a).wf = true) (hm : 0 < m) : ∃ t, creelkeep_picked.f a m = some t ∧ 0 ≤ t ∧ t < m := by
  obtain ⟨h1, h2⟩ := bounds_i64 hw
  unfold creelkeep_picked.f
  have e : ¬ m = 0 := by omega
  by_cases h : a < 0
  · rw [if_pos h, if_neg e, w64 (n := a + 1) (by omega) (by omega), w64 (by omega) (by omega)]
    exact ⟨_, rfl, Int.tmod_nonneg _ (by omega), Int.tmod_lt_of_pos _ hm⟩
  · rw [if_neg h, if_neg e]
    exact ⟨_, rfl, Int.tmod_nonneg _ (by omega), Int.tmod_lt_of_pos _ hm⟩

theorem yoe_core (e y : Int) (h0 : 0 ≤ e) (h1 : e ≤ 146096) (hy : y = (e - e / 1460 + e / 36524 - e / 146096) / 365) :
    0 ≤ y ∧ y ≤ 399 ∧ 365 * y + y / 4 - y / 100 ≤ e ∧ e < 365 * (y + 1) + (y + 1) / 4 - (y + 1) / 100 + (y + 1) / 400 := by
  by_cases e4 : e = 146096
  · subst e4; subst hy; decide
  obtain ⟨d, r, hd, hd0, hd1, hr0, hr1⟩ : ∃ d r : Int, e = 36524 * d + r ∧ 0 ≤ d ∧ d ≤ 3 ∧ 0 ≤ r ∧ r ≤ 36523 := ⟨e / 36524, e % 36524, by omega, by omega, by omega, by omega, by omega⟩
  have f' : e / 146096 = 0 := by omega
  have d' : e / 36524 = d := by omega
  obtain ⟨q, hq⟩ : ∃ q, q = (24 * d + r) / 1460 := ⟨_, rfl⟩
  have c' : e / 1460 = 25 * d + q := by omega
  rw [f', d', c'] at hy
  obtain ⟨t, ht⟩ : ∃ t, t = (r - q) / 365 := ⟨_, rfl⟩
  have hy2 : y = 100 * d + t := by omega
  have q0 : 0 ≤ q := by omega
  have q1 : q ≤ 25 := by omega
  have t0 : 0 ≤ t := by
    have : q ≤ r := by omega
    omega
  have t1 : t ≤ 99 := by omega
  have y4 : y / 4 = 25 * d + t / 4 := by omega
  have y100 : y / 100 = d := by omega
  refine ⟨by omega, by omega, ?_, ?_⟩
  · rw [y4, y100]
    have : t / 4 ≤ q := by omega
    omega
  · by_cases e99 : t = 99
    · have : (y + 1) / 100 = d + 1 := by omega
      have : (y + 1) / 4 = 25 * d + 25 := by omega
      omega
    · have : (y + 1) / 100 = d := by omega
      have : (y + 1) / 4 = 25 * d + (t + 1) / 4 := by omega
      have : q ≤ (t + 1) / 4 := by omega
      have : 0 ≤ (y + 1) / 400 := by omega
      omega
theorem td {n m : Int} (h : 0 ≤ n) : Int.tdiv n m = n / m := Int.tdiv_eq_ediv_of_nonneg h
/-- What a date is made of: era, day of the era, year of the era, day of the year, month from March on. -/
structure Dated (z E e y d m : Int) : Prop where
  hz : z = 146097 * E + e
  e0 : 0 ≤ e
  e1 : e ≤ 146096
  hy : y = (e - e / 1460 + e / 36524 - e / 146096) / 365
  y0 : 0 ≤ y
  y1 : y ≤ 399
  lo : 365 * y + y / 4 - y / 100 ≤ e
  hi : e < 365 * (y + 1) + (y + 1) / 4 - (y + 1) / 100 + (y + 1) / 400
  hd : d = e - (365 * y + y / 4 - y / 100)
  d0 : 0 ≤ d
  d1 : d ≤ 365
  hm : m = (5 * d + 2) / 153
theorem date_spec (a : Int) (h0 : -20000000 ≤ a) (h1 : a ≤ 20000000) : ∃ E e y d m, Dated (a + 719468) E e y d m ∧
    list_date.f a = some (if m < 10 then (y + 400 * E, m + 3, d - (153 * m + 2) / 5 + 1) else (y + 400 * E + 1, m - 9, d - (153 * m + 2) / 5 + 1)) := by
  unfold list_date.f
  rw [w64 (n := a + 719468) (by omega) (by omega)]
  have z0 : -20000000 ≤ a + 719468 := by omega
  have z1 : a + 719468 ≤ 30000000 := by omega
  generalize a + 719468 = z at z0 z1
  by_cases hs : z < 0
  case' pos =>
    have hE : wrap64 (Int.tdiv (z - 146096) 146097) = z / 146097 := by
      have : z - 146096 = -(146096 - z) := by omega
      rw [this, Int.neg_tdiv, td (by omega), w64 (by omega) (by omega)]; omega
    rw [if_pos hs, w64 (n := z - 146096) (by omega) (by omega), hE]
  case' neg =>
    have hE : wrap64 (Int.tdiv z 146097) = z / 146097 := by rw [td (by omega), w64 (by omega) (by omega)]
    rw [if_neg hs, hE]
  all_goals
    obtain ⟨E, gE⟩ : ∃ E, E = z / 146097 := ⟨_, rfl⟩
    rw [← gE, w64 (n := 146097 * E) (by omega) (by omega), w64 (n := z - 146097 * E) (by omega) (by omega)]
    obtain ⟨e, he⟩ : ∃ e, e = z - 146097 * E := ⟨_, rfl⟩
    have e0 : 0 ≤ e := by omega
    have e1 : e ≤ 146096 := by omega
    rw [← he, td (n := e) e0, w64 (n := e / 1460) (by omega) (by omega), w64 (n := e - e / 1460) (by omega) (by omega), td (n := e) (m := 36524) e0, w64 (n := e / 36524) (by omega) (by omega), w64 (n := e - e / 1460 + e / 36524) (by omega) (by omega), td (n := e) (m := 146096) e0, w64 (n := e / 146096) (by omega) (by omega), w64 (n := e - e / 1460 + e / 36524 - e / 146096) (by omega) (by omega), td (n := e - e / 1460 + e / 36524 - e / 146096) (by omega), w64 (n := (e - e / 1460 + e / 36524 - e / 146096) / 365) (by omega) (by omega)]
    obtain ⟨y, hy⟩ : ∃ y, y = (e - e / 1460 + e / 36524 - e / 146096) / 365 := ⟨_, rfl⟩
    obtain ⟨y0, y1, lo, hi⟩ := yoe_core e y e0 e1 hy
    rw [← hy, w64 (n := 365 * y) (by omega) (by omega), td (n := y) y0, w64 (n := y / 4) (by omega) (by omega), w64 (n := 365 * y + y / 4) (by omega) (by omega), td (n := y) (m := 100) y0, w64 (n := y / 100) (by omega) (by omega), w64 (n := 365 * y + y / 4 - y / 100) (by omega) (by omega), w64 (n := e - (365 * y + y / 4 - y / 100)) (by omega) (by omega)]
    obtain ⟨d, hd⟩ : ∃ d, d = e - (365 * y + y / 4 - y / 100) := ⟨_, rfl⟩
    have d0 : 0 ≤ d := by omega
    have d1 : d ≤ 365 := by omega
    rw [← hd, w64 (n := 5 * d) (by omega) (by omega), w64 (n := 5 * d + 2) (by omega) (by omega), td (n := 5 * d + 2) (by omega), w64 (n := (5 * d + 2) / 153) (by omega) (by omega)]
    obtain ⟨m, hm⟩ : ∃ m, m = (5 * d + 2) / 153 := ⟨_, rfl⟩
    rw [← hm, w64 (n := 400 * E) (by omega) (by omega), w64 (n := 153 * m) (by omega) (by omega), w64 (n := 153 * m + 2) (by omega) (by omega), td (n := 153 * m + 2) (by omega), w64 (n := (153 * m + 2) / 5) (by omega) (by omega), w64 (n := d - (153 * m + 2) / 5) (by omega) (by omega), w64 (n := d - (153 * m + 2) / 5 + 1) (by omega) (by omega), w64 (n := y + 400 * E) (by omega) (by omega), w64 (n := y + 400 * E + 1) (by omega) (by omega), w64 (n := m + 3) (by omega) (by omega), w64 (n := m - 9) (by omega) (by omega)]
    exact ⟨E, e, y, d, m, ⟨by omega, e0, e1, hy, y0, y1, lo, hi, hd, d0, d1, hm⟩, by split <;> rfl⟩
theorem day_spec (s : Int) (k : Nat) (h0 : -1099511627776 ≤ s) (h1 : s ≤ 1099511627776) (hk : 1 ≤ k) : ∃ E e y d m, Dated (s / 86400 + 719468) E e y d m ∧
    list_Day.f k s = some (if m < 10 then (y + 400 * E, m + 3, d - (153 * m + 2) / 5 + 1, 0) else (y + 400 * E + 1, m - 9, d - (153 * m + 2) / 5 + 1, 0)) := by
  obtain ⟨k, rfl⟩ : ∃ q, k = q + 1 := ⟨k - 1, by omega⟩
  obtain ⟨E, e, y, d, m, D, hf⟩ := date_spec (s / 86400) (by omega) (by omega)
  refine ⟨E, e, y, d, m, D, ?_⟩
  unfold list_Day.f
  have hd : decide (s > 1099511627776) = false := decide_eq_false (by omega)
  rw [if_neg (by omega), hd]
  simp only [list_Day.j0, Bool.false_eq_true, if_false]
  have hmod : Int.tmod s 86400 = s - 86400 * Int.tdiv s 86400 := by
    have := Int.tmod_add_mul_tdiv s 86400; omega
  by_cases hs : s < 0
  · have ht : Int.tdiv s 86400 = -((-s) / 86400) := by
      have e1 : s = -(-s) := by omega
      rw [e1, Int.neg_tdiv, td (by omega)]; simp
    by_cases hr : Int.tmod s 86400 < 0
    · rw [if_pos hr, ht, w64 (n := -(-s / 86400)) (by omega) (by omega), w64 (by omega) (by omega)]
      have : -(-s / 86400) - 1 = s / 86400 := by omega
      rw [this, hf]
      simp only [Option.bind_some]
      split <;> rfl
    · rw [if_neg hr, ht, w64 (n := -(-s / 86400)) (by omega) (by omega)]
      have : -(-s / 86400) = s / 86400 := by omega
      rw [this, hf]
      simp only [Option.bind_some]
      split <;> rfl
  · have ht : Int.tdiv s 86400 = s / 86400 := td (by omega)
    rw [if_neg (by omega), ht, w64 (by omega) (by omega), hf]
    simp only [Option.bind_some]
    split <;> rfl
theorem years_mono (a b : Int) (h : a ≤ b) : 365 * a + a / 4 - a / 100 ≤ 365 * b + b / 4 - b / 100 := by
  by_cases e : a = b
  · subst e; omega
  · omega

theorem ListNext : creelkeep_ListNext.Pure := by
  intro a ha
  obtain ⟨x, hx, x0, x1⟩ := picked_spec (m := 2199023169152) ha (by decide)
  refine ⟨3, ?_⟩
  unfold creelkeep_ListNext.f
  rw [hx]
  simp only [Option.bind_some]
  rw [w64 (n := x - 1099511627776) (by omega) (by omega), w64 (n := x - 1099511627776 + 86400) (by omega) (by omega)]
  obtain ⟨E, e, y, d, m, D, hf⟩ := day_spec (x - 1099511627776) 3 (by omega) (by omega) (by omega)
  obtain ⟨E', e', y', d', m', D', hf'⟩ := day_spec (x - 1099511627776 + 86400) 3 (by omega) (by omega) (by omega)
  have z0 : list_Day.f 3 0 = some (1970, 1, 1, 0) := by decide +kernel
  obtain ⟨hz, e0, e1, hy, y0, y1, lo, hi, hd, d0, d1, hm⟩ := D
  obtain ⟨hz', e0', e1', hy', y0', y1', lo', hi', hd', d0', d1', hm'⟩ := D'
  have hdiv : (x - 1099511627776 + 86400) / 86400 = (x - 1099511627776) / 86400 + 1 := by omega
  rw [hdiv] at hz'
  have hE0 : -2000 ≤ E := by omega
  have hE1 : E ≤ 2000 := by omega
  -- the next day is in the same year, or the first one of the next
  have key : (y' + 400 * E' = y + 400 * E ∧ d' = d + 1) ∨ (y' + 400 * E' = y + 400 * E + 1 ∧ d' = 0 ∧ 364 ≤ d) := by
    by_cases c : e = 146096
    · have : e' = 0 := by omega
      have : E' = E + 1 := by omega
      subst c
      have : y = 399 := by rw [hy]; decide
      have : y' = 0 := by rw [hy', ‹e' = 0›]; decide
      right
      omega
    · have h1 : e' = e + 1 := by omega
      have h2 : E' = E := by omega
      clear hy hy'
      have h3 : y ≤ y' := by
        by_cases q : y ≤ y'
        · exact q
        · have := years_mono (y' + 1) y (by omega)
          have : (y' + 1) / 400 = 0 := by omega
          omega
      have h4 : y' ≤ y + 1 := by
        by_cases q : y' ≤ y + 1
        · exact q
        · have := years_mono (y + 1) y' (by omega)
          have := years_mono (y + 2) y' (by omega)
          have : (y + 1) / 400 = 0 := by omega
          omega
      by_cases h5 : y' = y
      · left; subst h5; omega
      · right
        obtain rfl : y' = y + 1 := by omega
        have : (y + 1) / 400 = 0 := by omega
        have : (y + 1) / 100 - y / 100 ≤ (y + 1) / 4 - y / 4 := by
          by_cases q : (y + 1) % 100 = 0
          · omega
          · have : (y + 1) / 100 = y / 100 := by omega
            omega
        omega
  rw [hf, hf', z0]
  have m0 : 0 ≤ m := by omega
  have m1 : m ≤ 11 := by omega
  have n0 : 0 ≤ m' := by omega
  have n1 : m' ≤ 11 := by omega
  have ym : -1000000 ≤ y + 400 * E ∧ y + 400 * E ≤ 1000000 := by omega
  have ym' : -1000000 ≤ y' + 400 * E' ∧ y' + 400 * E' ≤ 1000000 := by omega
  clear hx hf hf' hz hz' hdiv hy lo hi hd hy' lo' hi' hd' z0
  generalize y + 400 * E = Y at key ym ⊢
  generalize y' + 400 * E' = Y' at key ym' ⊢
  rcases key with ⟨rfl, rfl⟩ | ⟨rfl, rfl, h364⟩
  · by_cases c : m' = m
    · obtain rfl := c
      by_cases hl : m' < 10
      · simp only [if_pos hl, Option.bind_some, if_true, bne_self_eq_false]
        simp only [creelkeep_ListNext.j0, creelkeep_ListNext.j1, Bool.false_eq_true, if_false, if_true, beq_self_eq_true]
        rw [w64 (n := d - (153 * m' + 2) / 5 + 1 + 1) (by omega) (by omega)]
        have : d + 1 - (153 * m' + 2) / 5 + 1 = d - (153 * m' + 2) / 5 + 1 + 1 := by omega
        rw [this, beq_self_eq_true]
      · simp only [if_neg hl, Option.bind_some, if_true, bne_self_eq_false]
        simp only [creelkeep_ListNext.j0, creelkeep_ListNext.j1, Bool.false_eq_true, if_false, if_true, beq_self_eq_true]
        rw [w64 (n := d - (153 * m' + 2) / 5 + 1 + 1) (by omega) (by omega)]
        have : d + 1 - (153 * m' + 2) / 5 + 1 = d - (153 * m' + 2) / 5 + 1 + 1 := by omega
        rw [this, beq_self_eq_true]
    · have c2 : m' = m + 1 := by omega
      subst c2
      have day1 : d + 1 - (153 * (m + 1) + 2) / 5 + 1 = 1 := by omega
      have day28 : 28 ≤ d - (153 * m + 2) / 5 + 1 := by omega
      rw [day1]
      by_cases hl : m < 9
      · simp only [if_pos (show m < 10 by omega), if_pos (show m + 1 < 10 by omega), Option.bind_some, if_true, bne_self_eq_false]
        have hb : (m + 1 + 3 == m + 3) = false := by rw [beq_eq_false_iff_ne]; omega
        simp only [creelkeep_ListNext.j0, creelkeep_ListNext.j1, Bool.false_eq_true, if_false, if_true, hb]
        rw [w64 (n := m + 3 + 1) (by omega) (by omega), if_pos (by omega)]
        rw [decide_eq_true (by omega)]
      · by_cases hl9 : m = 9
        · subst hl9
          have day31 : d - (153 * 9 + 2) / 5 + 1 = 31 := by omega
          rw [day31]
          simp only [if_pos (show (9 : Int) < 10 by omega), if_neg (show ¬ ((9 : Int) + 1 < 10) by omega), Option.bind_some, if_true, bne_self_eq_false]
          simp only [creelkeep_ListNext.j0, creelkeep_ListNext.j1, Bool.false_eq_true, if_false, if_true]
          rw [if_neg (by omega), if_neg (by omega), w64 (n := Y' + 1) (by omega) (by omega)]
          simp
        · simp only [if_neg (show ¬ m < 10 by omega), if_neg (show ¬ m + 1 < 10 by omega), Option.bind_some, if_true, bne_self_eq_false]
          have hb : (m + 1 - 9 == m - 9) = false := by rw [beq_eq_false_iff_ne]; omega
          simp only [creelkeep_ListNext.j0, creelkeep_ListNext.j1, Bool.false_eq_true, if_false, if_true, hb]
          rw [w64 (n := m - 9 + 1) (by omega) (by omega), if_pos (by omega)]
          rw [decide_eq_true (by omega)]
  · have c : m = 11 := by omega
    subst c
    have c2 : m' = 0 := by omega
    subst c2
    simp only [if_neg (show ¬ (11 : Int) < 10 by omega), if_pos (show (0 : Int) < 10 by omega), Option.bind_some, if_true, bne_self_eq_false]
    simp only [creelkeep_ListNext.j0, creelkeep_ListNext.j1, Bool.false_eq_true, if_false, if_true]
    have hb : ((0 : Int) + 3 == 11 - 9) = false := by decide
    simp only [hb, creelkeep_ListNext.j1, Bool.false_eq_true, if_false]
    rw [w64 (n := (11 : Int) - 9 + 1) (by omega) (by omega), if_pos (by omega), if_pos (by omega), decide_eq_true (by omega)]

end Go.Proofs.Ytbhdfjdopphhdaa.Pure
